/- The evaluator in boxes: quiet operations. -/
import Derived.Test.YtdakmcoggmlglaaGreatAbFast1
set_option linter.all false
set_option linter.unusedVariables false
set_option linter.unusedSimpArgs false
namespace Go.Ab
open Go.RowKit
noncomputable section

variable {P : Program}

/-! a value is put away, and what comes next -/

def putF (size : Nat) (d : Option Tmp) (nx : NB) : VB :=
  Option.rec ⟨fun _ c t h => nx.run c t h⟩ (fun d => Bool.rec ⟨fun _ _ _ _ => none⟩
    (TPut.rec (fun u => ⟨fun v c t h => u v t fun t' => nx.run c t' h⟩) (putB d)) (Nat.blt d size)) d

/-- where the state goes on -/
def onward (nx : NB) (J : JobF) (p : ASt × AHeap) : Out := nx.run ⟨J, p.1.defers, p.1.round⟩ p.1.t p.2

def stOf (size : Nat) (c : Ctx) (t : TT AV) : ASt := ⟨size, t, c.df, c.rd⟩

theorem putF_eq (size : Nat) (d : Option Tmp) (nx : NB) (v : Option AV) (c : Ctx) (t : TT AV) (h : AHeap) :
    (putF size d nx).run v c t h = obind (keepS (stOf size c t) d v h) (onward nx c.J) := by
  cases d with
  | none => rfl
  | some d =>
    show VB.run (Bool.rec _ _ (Nat.blt d size)) v c t h = obind (obind (bif' (Nat.blt d size) (some _) none) _) _
    cases Nat.blt d size with
    | false => rfl
    | true =>
      have e := putB_go (β := Out) d v t (fun t' => nx.run c t' h)
      have e2 : VB.run (TPut.rec (motive := fun _ => VB) (fun u => ⟨fun v c t h => u v t fun t' => nx.run c t' h⟩) (putB d)) v c t h = (putB d).go v t (fun t' => nx.run c t' h) := by
        cases putB (α := AV) (β := Out) d; rfl
      exact e2.trans (e.trans rfl)

/-- what a quiet operation yields -/
def qv (P : Program) (o : Op) (size : Nat) (c : Ctx) (t : TT AV) (h : AHeap) : Option (Option AV) := quietV (execT P o (stOf size c t) h)

/-- the box does what the quiet operation does -/
def QOk (P : Program) (o : Op) (b : VB → NB) : Prop :=
  (∀ (kv : VB) size c t h, (b kv).run c t h = obind (qv P o size c t h) fun v => kv.run v c t h) ∧
  (∀ size c t h, execT P o (stOf size c t) h = obind (qv P o size c t h) fun v => some (.val v, h))

def noN : KN := fun _ _ _ => none

/-- a value that is known, or nothing -/
def gotK (f : KV) : Option AV → KN := Option.rec (motive := fun _ => KN) (fun _ _ _ => none) (fun v => f (some v))

/-! moves -/

def qMove (x : Operand) (kv : VB) : NB :=
  OB.rec (fun g => VB.rec (fun f => ⟨fun c t h => Option.rec (motive := fun _ => KN) (f none) (fun v => f (some v)) (g t) c t h⟩) kv) (opnd x)

theorem ob_eta {α : Type} (x : Operand) (F : (TT AV → Option AV) → α) : (OB.rec (motive := fun _ => α) F (opnd x)) = F (opnd x).run := by cases opnd x; rfl
theorem vb_eta {α : Type} (kv : VB) (F : KV → α) : (VB.rec (motive := fun _ => α) F kv) = F kv.run := by cases kv; rfl
theorem cb_eta {α β : Type} (b : CB α) (F : (AV → α) → β) : (CB.rec (motive := fun _ => β) F b) = F b.run := by cases b; rfl

theorem qMove_ok (x : Operand) : QOk P (.move x) (qMove x) := by
  refine ⟨fun kv size c t h => ?_, fun size c t h => rfl⟩
  simp only [qMove, ob_eta, vb_eta, opnd_eq]
  show _ = kv.run (aval t x) c t h
  cases aval t x <;> rfl

theorem qAssign_ok (x : Operand) : QOk P (.assign x) (qMove x) := qMove_ok (P := P) x

def qPick (x a b : Operand) (kv : VB) : NB :=
  OB.rec (fun g => OB.rec (fun ga => OB.rec (fun gb => VB.rec (fun f =>
    CB.rec (fun k => ⟨fun c t h => Option.rec (motive := fun _ => KN) (fun _ _ _ => none) k (g t) c t h⟩)
      (cBool (fun _ _ _ _ => none) (fun b => Bool.rec (motive := fun _ => KN)
        (fun c t h => Option.rec (motive := fun _ => KN) (f none) (fun v => f (some v)) (gb t) c t h)
        (fun c t h => Option.rec (motive := fun _ => KN) (f none) (fun v => f (some v)) (ga t) c t h) b))) kv) (opnd b)) (opnd a)) (opnd x)

theorem qPick_ok (x a b : Operand) : QOk P (.pick x a b) (qPick x a b) := by
  refine ⟨fun kv size c t h => ?_, fun size c t h => ?_⟩
  · simp only [qPick, ob_eta, vb_eta, cb_eta, opnd_eq]
    show _ = obind (quietV (obind (aval t x) _)) _
    cases aval t x with
    | none => rfl
    | some v =>
      cases v <;> try rfl
      rename_i b'
      cases b' with
      | false => show Option.rec (motive := fun _ => KN) (kv.run none) (fun v => kv.run (some v)) (aval t b) c t h = kv.run (aval t b) c t h; cases aval t b <;> rfl
      | true => show Option.rec (motive := fun _ => KN) (kv.run none) (fun v => kv.run (some v)) (aval t a) c t h = kv.run (aval t a) c t h; cases aval t a <;> rfl
  · show (obind (aval t x) _) = obind (quietV (obind (aval t x) _)) _
    cases aval t x with
    | none => rfl
    | some v => cases v <;> rfl

/-! an operation on one value -/

/-- one operand, a value out of it (f: the value's use) -/
def un1 (x : Operand) (kv : VB) (B : KV → CB KN) : NB :=
  OB.rec (fun g => VB.rec (fun f => CB.rec (fun k => ⟨fun c t h => Option.rec (motive := fun _ => KN) (fun _ _ _ => none) k (g t) c t h⟩) (B f)) kv) (opnd x)

theorem un1_eq (x : Operand) (kv : VB) (B : KV → CB KN) (E : AV → AHeap → Option AV) (hB : ∀ v c t h, (B kv.run).run v c t h = obind (E v h) fun u => kv.run (some u) c t h)
    (c : Ctx) (t : TT AV) (h : AHeap) : (un1 x kv B).run c t h = obind (obind (aval t x) fun v => obind (E v h) fun u => some (some u)) fun v => kv.run v c t h := by
  simp only [un1, ob_eta, vb_eta, cb_eta, opnd_eq]
  cases aval t x with
  | none => rfl
  | some v =>
    show (B kv.run).run v c t h = _
    rw [hB]
    show _ = obind (obind (E v h) _) _
    cases E v h <;> rfl

theorem stay_qv (x : Option AV) (E : AV → Option AV) (h : AHeap) : quietV (obind x fun v => stay h (E v)) = obind x fun v => obind (E v) fun u => some (some u) := by
  cases x with
  | none => rfl
  | some v => show quietV (stay h (E v)) = obind (E v) _; cases E v <;> rfl
theorem stay_ex (x : Option AV) (E : AV → Option AV) (h : AHeap) : (obind x fun v => stay h (E v)) = obind (quietV (obind x fun v => stay h (E v))) fun v => some (.val v, h) := by
  cases x with
  | none => rfl
  | some v => show stay h (E v) = obind (quietV (stay h (E v))) _; cases E v <;> rfl

theorem un1_ok (o : Op) (x : Operand) (B : KV → CB KN) (E : AV → AHeap → Option AV) (hB : ∀ f v c t h, (B f).run v c t h = obind (E v h) fun u => f (some u) c t h)
    (hx : ∀ s h, execT P o s h = obind (aval (tmpsOf s) x) fun v => stay h (E v h)) : QOk P o (fun kv => un1 x kv B) := by
  refine ⟨fun kv size c t h => ?_, fun size c t h => ?_⟩
  · rw [un1_eq x kv B E (fun v c t h => hB _ v c t h), qv, hx, stay_qv _ (fun v => E v h)]; rfl
  · rw [qv, hx]; exact stay_ex _ (fun v => E v h) h

def nilCheckB (f : KV) : CB KN := cPtr (fun v c t h => gotK f (nilCheckA v) c t h) (fun b o => f (some (.ptr b o)))
theorem nilCheck_ok (x : Operand) : QOk P (.nilCheck x) (fun kv => un1 x kv nilCheckB) :=
  un1_ok _ x _ (fun v _ => nilCheckA v) (fun f v c t h => by cases v <;> rfl) (fun s h => rfl)

def unB (op : UnOp) (f : KV) : CB KN :=
  UnOp.rec (cInt (fun v c t h => gotK f (unA .neg v) c t h) (fun k n c t h => gotK f (unA .neg (.int k n)) c t h))
    (cInt (fun v c t h => gotK f (unA .xor v) c t h) (fun k n c t h => gotK f (unA .xor (.int k n)) c t h))
    (cBool (fun v c t h => gotK f (unA .not v) c t h) (fun b => Bool.rec (motive := fun _ => KN) (f (some (.bool true))) (f (some (.bool false))) b))
    (cInt (fun v c t h => gotK f (unA .plus v) c t h) (fun k n c t h => gotK f (unA .plus (.int k n)) c t h)) op

theorem gotK_eq (f : KV) (x : Option AV) (c : Ctx) (t : TT AV) (h : AHeap) : gotK f x c t h = obind x fun u => f (some u) c t h := by cases x <;> rfl

theorem cInt_same {α : Type} (g : AV → α) (v : AV) : (cInt g (fun k n => g (.int k n))).run v = g v := by cases v <;> rfl

theorem unB_eq (op : UnOp) (f : KV) (v : AV) (c : Ctx) (t : TT AV) (h : AHeap) : (unB op f).run v c t h = obind (unA op v) fun u => f (some u) c t h := by
  cases op
  · exact (congrFun (congrFun (congrFun (cInt_same (α := KN) (fun v c t h => gotK f (unA .neg v) c t h) v) c) t) h).trans (gotK_eq ..)
  · exact (congrFun (congrFun (congrFun (cInt_same (α := KN) (fun v c t h => gotK f (unA .xor v) c t h) v) c) t) h).trans (gotK_eq ..)
  · by_cases hb : ∃ b, v = .bool b
    · obtain ⟨b, rfl⟩ := hb; cases b <;> rfl
    · have : (unB .not f).run v c t h = gotK f (unA .not v) c t h := by
        cases v <;> first | rfl | (rename_i b; exact absurd ⟨b, rfl⟩ hb)
      exact this.trans (gotK_eq ..)
  · exact (congrFun (congrFun (congrFun (cInt_same (α := KN) (fun v c t h => gotK f (unA .plus v) c t h) v) c) t) h).trans (gotK_eq ..)

theorem unOp_ok (op : UnOp) (ty : TypeId) (x : Operand) : QOk P (.unOp op ty x) (fun kv => un1 x kv (unB op)) :=
  un1_ok _ x _ (fun v _ => unA op v) (fun f v c t h => unB_eq op f v c t h) (fun s h => rfl)

/-- the n'th -/
def nthF {α : Type} (l : List α) : Nat → Option α := List.rec (fun _ => none) (fun a _ ih n => Nat.rec (some a) (fun m _ => ih m) n) l
theorem nthF_eq {α : Type} : ∀ (l : List α) (n : Nat), nthF l n = l[n]?
  | [], _ => rfl
  | _ :: _, 0 => rfl
  | a :: l, n + 1 => by show nthF l n = _; rw [nthF_eq l n]; rfl

def extractB (i : Nat) (f : KV) : CB KN := cTup (fun v c t h => none) (fun vs c t h => gotK f (nthF vs i) c t h)
theorem extract_ok (x : Operand) (i : Nat) : QOk P (.extract x i) (fun kv => un1 x kv (extractB i)) :=
  un1_ok _ x _ (fun v _ => extractA v i) (fun f v c t h => by
    cases v <;> first | rfl | skip
    rename_i vs; show gotK f (nthF vs i) c t h = obind (vs[i]?) _; rw [nthF_eq]; exact gotK_eq f _ c t h) (fun s h => rfl)

/-- fields, by the text alone -/
def fieldAddrB (P : Program) (ty : TypeId) (i : Nat) (f : KV) : CB KN :=
  Option.rec ⟨fun _ _ _ _ => none⟩ (fun o => cPtr (fun v c t h => none) (fun b off c t h => forceN (Nat.add off o) fun o' => f (some (.ptr b o')) c t h)) (fieldOff P ty i)
theorem fieldAddr_ok (ty : TypeId) (x : Operand) (i : Nat) : QOk P (.fieldAddr ty x i) (fun kv => un1 x kv (fieldAddrB P ty i)) :=
  un1_ok _ x _ (fun v _ => fieldAtA P ty v i) (fun f v c t h => by
    show CB.run (Option.rec (motive := fun _ => CB KN) _ _ (fieldOff P ty i)) v c t h = _
    cases ho : fieldOff P ty i with
    | none => cases v <;> first | rfl | (show none = obind (obind (fieldOff P ty i) _) _; rw [ho]; rfl)
    | some o =>
      cases v <;> first | rfl | skip
      rename_i b off
      show forceN (Nat.add off o) (fun o' => f (some (.ptr b o')) c t h) = obind (obind (fieldOff P ty i) (fun o => forceN (Nat.add off o) fun o' => some (.ptr b o'))) (fun u => f (some u) c t h)
      rw [ho, forceN_eq, obind_some, forceN_eq]; rfl) (fun s h => rfl)

/-- a part of an aggregate: where, and whether it is one cell -/
def partB (P : Program) (ty : TypeId) (f : KV) : Row → Nat → KN :=
  Option.rec (fun _ _ _ _ _ => none) (fun g => Bool.rec (fun r off c t h => gotK f (rget r off) c t h)
    (Option.rec (fun _ _ _ _ _ => none) (fun n r off c t h => Option.rec (motive := fun _ => KN) (fun _ _ _ => none) (fun q => f (some (.agg q))) (rsub r off n) c t h) (szOf P ty)) g) (aggOf P ty)

theorem partB_eq (ty : TypeId) (f : KV) (r : Row) (off : Nat) (c : Ctx) (t : TT AV) (h : AHeap) : partB P ty f r off c t h = obind (partA P ty r off) fun u => f (some u) c t h := by
  unfold partB partA
  cases aggOf P ty with
  | none => rfl
  | some g =>
    cases g with
    | false => exact gotK_eq f _ c t h
    | true =>
      show (Option.rec (motive := fun _ => Row → Nat → KN) _ _ (szOf P ty)) r off c t h = obind (obind (szOf P ty) _) _
      cases szOf P ty with
      | none => rfl
      | some n =>
        show (Option.rec (motive := fun _ => KN) _ _ (rsub r off n)) c t h = obind (obind (rsub r off n) _) _
        cases rsub r off n <;> rfl

/-- a box of a function of a row and a place -/
structure RB2 where
  run : Row → Nat → KN
def partX (P : Program) (ty : TypeId) (f : KV) : RB2 :=
  Option.rec ⟨fun _ _ _ _ _ => none⟩ (fun g => Bool.rec ⟨fun r off c t h => gotK f (rget r off) c t h⟩
    (Option.rec ⟨fun _ _ _ _ _ => none⟩ (fun n => ⟨fun r off c t h => Option.rec (motive := fun _ => KN) (fun _ _ _ => none) (fun q => f (some (.agg q))) (rsub r off n) c t h⟩) (szOf P ty)) g) (aggOf P ty)
theorem partX_eq (ty : TypeId) (f : KV) (r : Row) (off : Nat) (c : Ctx) (t : TT AV) (h : AHeap) : (partX P ty f).run r off c t h = obind (partA P ty r off) fun u => f (some u) c t h := by
  rw [← partB_eq]
  unfold partB partX
  cases aggOf P ty with
  | none => rfl
  | some g =>
    cases g with
    | false => rfl
    | true => cases szOf P ty <;> rfl
theorem rb2_eta {β : Type} (b : RB2) (F : (Row → Nat → KN) → β) : (RB2.rec (motive := fun _ => β) F b) = F b.run := by cases b; rfl

/-- the field's type and place -/
def fieldOf (P : Program) (s : TypeId) (f : Nat) : Option (TypeId × Nat) :=
  obind (P.underlying s) fun d => match d with
    | .struct fs => obind fs[f]? fun fd => some (fd.type, fd.offset)
    | _ => none

def fieldB (P : Program) (ty : TypeId) (i : Nat) (f : KV) : CB KN :=
  Option.rec ⟨fun _ _ _ _ => none⟩ (fun p => RB2.rec (fun k => Prod.rec (fun _ off => cAgg (fun v c t h => none) (fun r c t h => k r off c t h)) p) (partX P p.1 f)) (fieldOf P ty i)
theorem field_ok (ty : TypeId) (x : Operand) (i : Nat) : QOk P (.field ty x i) (fun kv => un1 x kv (fieldB P ty i)) :=
  un1_ok _ x _ (fun v _ => fieldA P ty v i) (fun f v c t h => by
    show CB.run (Option.rec (motive := fun _ => CB KN) _ _ (fieldOf P ty i)) v c t h = _
    have key : ∀ r, fieldA P ty (.agg r) i = obind (fieldOf P ty i) fun p => partA P p.1 r p.2 := by
      intro r
      show (obind (P.underlying ty) _) = obind (obind (P.underlying ty) _) _
      cases P.underlying ty with
      | none => rfl
      | some d =>
        cases d <;> first | rfl | skip
        rename_i fs
        show obind fs[i]? _ = obind (obind fs[i]? _) _
        cases fs[i]? <;> rfl
    cases ho : fieldOf P ty i with
    | none => cases v <;> first | rfl | (rw [key, ho]; rfl)
    | some p =>
      simp only [rb2_eta]
      cases v <;> first | rfl | skip
      rename_i r
      rw [key, ho]
      obtain ⟨a, b⟩ := p
      exact partX_eq a f r b c t h) (fun s h => rfl)

/-! loads -/

def loadX (P : Program) (ty : TypeId) (f : KV) : CB KN :=
  RB2.rec (fun k => cPtr (fun v c t h => none) (fun b off c t h =>
    Option.rec (motive := fun _ => Nat → KN) (fun _ _ _ _ => none)
      (fun o => AObj.rec (motive := fun _ => Nat → KN) (fun r _ _ off => k r off) (fun _ _ _ _ _ _ => none) (fun _ _ _ _ _ _ _ _ _ _ _ _ => none) (fun _ _ _ _ _ => none) o)
      ((hgetB b).run h.t) off c t h)) (partX P ty f)

theorem hget_at (h : AHeap) (b : Nat) : (hgetB b).run h.t = h.at b := by
  show _ = HGet.go (hgetB b) h.t
  cases hgetB (α := AObj) b; rfl

theorem load_ok (ty : TypeId) (x : Operand) : QOk P (.load ty x) (fun kv => un1 x kv (loadX P ty)) :=
  un1_ok _ x _ (fun v h => loadA P ty v h) (fun f v c t h => by
    simp only [loadX, rb2_eta]
    cases v <;> first | rfl | skip
    rename_i b off
    show (Option.rec (motive := fun _ => Nat → KN) _ _ ((hgetB b).run h.t)) off c t h = obind (obind (h.at b) _) _
    rw [hget_at]
    cases h.at b with
    | none => rfl
    | some o =>
      cases o with
      | cells r _ _ => exact partX_eq ty f r off c t h
      | _ => rfl) (fun s h => rfl)

end
end Go.Ab
