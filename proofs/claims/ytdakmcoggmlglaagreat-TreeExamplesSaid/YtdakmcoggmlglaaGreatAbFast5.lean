/- The evaluator in boxes: an operation by its kind; calls; regions. -/
import Derived.Test.YtdakmcoggmlglaaGreatAbFast4
set_option linter.all false
set_option linter.unusedVariables false
set_option linter.unusedSimpArgs false
namespace Go.Ab
open Go.RowKit
noncomputable section

variable {P : Program}

/-- the quiet operations that have a box -/
def qBox (P : Program) (o : Op) : Option (VB → NB) :=
  match o with
  | .move x => some (qMove x)
  | .assign x => some (qMove x)
  | .pick x a b => some (qPick x a b)
  | .nilCheck x => some fun kv => un1 x kv nilCheckB
  | .unOp op _ x => some fun kv => un1 x kv (unB op)
  | .extract x i => some fun kv => un1 x kv (extractB i)
  | .fieldAddr ty x i => some fun kv => un1 x kv (fieldAddrB P ty i)
  | .field ty x i => some fun kv => un1 x kv (fieldB P ty i)
  | .load ty x => some fun kv => un1 x kv (loadX P ty)
  | .index ty x y => some fun kv => bin2 x y kv (slow2 fun v u _ => indexA P ty v u)
  | .lookup ty x y ok => some fun kv => bin2 x y kv (slow2 fun v u h => lookupA P ty v u ok h)
  | .binOp op ty x y _ => some fun kv => bin2 x y kv (binB P op ty (bif' (isConstO x) true (isConstO y)))
  | .indexAddr ty x y => some fun kv => bin2 x y kv (indexAddrB P ty)
  | _ => none

theorem qBox_ok {o : Op} {b : VB → NB} (h : qBox P o = some b) : QOk P o b := by
  cases o <;> first | (cases h; done) | skip
  all_goals cases h
  · exact qMove_ok _
  · exact qAssign_ok _
  · exact qPick_ok ..
  · exact load_ok ..
  · exact nilCheck_ok _
  · exact binOp_ok ..
  · exact unOp_ok ..
  · exact fieldAddr_ok ..
  · exact field_ok ..
  · exact indexAddr_ok ..
  · exact index_ok ..
  · exact lookup_ok ..
  · exact extract_ok ..

def sBox (P : Program) (o : Op) : Option (VB → NB) :=
  match o with
  | .store ty a x => some (storeF P ty a x)
  | .alloc e => some (allocF P e)
  | .box _ x => some (boxF x)
  | o => qBox P o

theorem sBox_ok {o : Op} {b : VB → NB} (h : sBox P o = some b) : SOk P o b := by
  cases o
  case store ty a x => cases h; exact store_ok ..
  case alloc e => cases h; exact alloc_ok ..
  case box e x => cases h; exact box_ok ..
  all_goals exact QOk.sOk (qBox_ok h)

/-- the slow way -/
def genF (P : Program) (size : Nat) (o : Oper) (nx : NB) : NB :=
  ⟨fun c t h => Option.rec (motive := fun _ => KN) (fun _ _ _ => none)
    (fun p c _ _ => Prod.rec (fun s h' => ASt.rec (fun _ t' df rd => forceT t' fun t' => forceH h' fun h' => nx.run ⟨c.J, df, rd⟩ t' h') s) p) (opGo P c.J o ⟨size, t, c.df, c.rd⟩ h) c t h⟩

theorem genF_eq (size : Nat) (o : Oper) (nx : NB) (c : Ctx) (t : TT AV) (h : AHeap) : (genF P size o nx).run c t h = obind (opGo P c.J o (stOf size c t) h) (onward nx c.J) := by
  show Option.rec (motive := fun _ => KN) _ _ (opGo P c.J o (stOf size c t) h) c t h = _
  cases opGo P c.J o (stOf size c t) h with
  | none => rfl
  | some p =>
    obtain ⟨⟨sz, t', df, rd⟩, h'⟩ := p
    show forceT t' (fun t' => forceH h' fun h' => nx.run ⟨c.J, df, rd⟩ t' h') = _
    rw [forceT_eq, forceH_eq]; rfl

/-! calls -/

structure AK where
  run : TT AV → (List AV → Out) → Out

def argsB (l : List Operand) : AK :=
  List.rec ⟨fun _ k => k []⟩ (fun x _ ih => OB.rec (fun g => AK.rec (fun r => ⟨fun t k => Option.rec (motive := fun _ => TT AV → (List AV → Out) → Out) (fun _ _ => none) (fun v t k => r t fun vs => k (v :: vs)) (g t) t k⟩) ih) (opnd x)) l

theorem argsB_eq : ∀ (l : List Operand) (t : TT AV) (k : List AV → Out), (argsB l).run t k = obind (avals t l) k
  | [], t, k => rfl
  | x :: l, t, k => by
    have ih := argsB_eq l
    show AK.run (OB.rec (motive := fun _ => AK) (fun g => AK.rec (motive := fun _ => AK) (fun r => ⟨fun t k => Option.rec (motive := fun _ => TT AV → (List AV → Out) → Out) (fun _ _ => none) (fun v t k => r t fun vs => k (v :: vs)) (g t) t k⟩) (argsB l)) (opnd x)) t k = obind (obind (aval t x) _) k
    have e : AK.run (OB.rec (motive := fun _ => AK) (fun g => AK.rec (motive := fun _ => AK) (fun r => ⟨fun t k => Option.rec (motive := fun _ => TT AV → (List AV → Out) → Out) (fun _ _ => none) (fun v t k => r t fun vs => k (v :: vs)) (g t) t k⟩) (argsB l)) (opnd x)) t k
        = Option.rec (motive := fun _ => TT AV → (List AV → Out) → Out) (fun _ _ => none) (fun v t k => (argsB l).run t fun vs => k (v :: vs)) ((opnd x).run t) t k := by
      cases opnd x; cases argsB l; rfl
    rw [e, opnd_eq]
    cases aval t x with
    | none => rfl
    | some v =>
      show (argsB l).run t (fun vs => k (v :: vs)) = obind (obind (avals t l) _) k
      rw [ih]
      cases avals t l <;> rfl

/-- a call of a function that is named -/
def callF (P : Program) (f : FuncId) (args : List Operand) (kv : VB) : NB :=
  Bool.rec ⟨fun _ _ _ => none⟩ (AK.rec (fun ag => VB.rec (fun k => ⟨fun c t h => ag t fun vs => Option.rec (motive := fun _ => KN) (fun _ _ _ => none)
    (fun p c t _ => Prod.rec (fun v h' => k (some v) c t h') p) (c.J (.fn f) vs h) c t h⟩) kv) (argsB args)) (bodied P f)

theorem callF_eq (f : FuncId) (args : List Operand) (kv : VB) (c : Ctx) (t : TT AV) (h : AHeap) :
    (callF P f args kv).run c t h = obind (avals t args) fun vs => bif' (bodied P f) (obind (c.J (.fn f) vs h) fun p => kv.run (some p.1) c t p.2) none := by
  have e : ∀ b, NB.run (Bool.rec (motive := fun _ => NB) ⟨fun _ _ _ => none⟩ (AK.rec (motive := fun _ => NB) (fun ag => VB.rec (motive := fun _ => NB) (fun k => ⟨fun c t h => ag t fun vs => Option.rec (motive := fun _ => KN) (fun _ _ _ => none)
      (fun p c t _ => Prod.rec (fun v h' => k (some v) c t h') p) (c.J (.fn f) vs h) c t h⟩) kv) (argsB args)) b) c t h =
      bif' b ((argsB args).run t fun vs => obind (c.J (.fn f) vs h) fun p => kv.run (some p.1) c t p.2) none := by
    intro b
    cases b with
    | false => rfl
    | true =>
      have : (fun vs => Option.rec (motive := fun _ => KN) (fun _ _ _ => none) (fun (p : AV × AHeap) c t _ => Prod.rec (fun v h' => kv.run (some v) c t h') p) (c.J (.fn f) vs h) c t h) = fun vs => obind (c.J (.fn f) vs h) fun p => kv.run (some p.1) c t p.2 := by
        funext vs; cases c.J (.fn f) vs h <;> rfl
      show _ = (argsB args).run t _
      rw [← this]
  refine (e (bodied P f)).trans ?_
  rw [argsB_eq]
  cases bodied P f with
  | false => cases avals t args <;> rfl
  | true => rfl

/-! an operation -/

def callOf (o : Op) : Option (FuncId × List Operand) :=
  match o with
  | .call c => match c.callee with
    | .value (.func f) => some (f, c.args.toList)
    | _ => none
  | _ => none

def opF0 (P : Program) (size : Nat) (o : Oper) (nx : NB) : NB :=
  Option.rec (Option.rec (genF P size o nx) (fun p => callF P p.1 p.2 (putF size o.dst nx)) (callOf o.op)) (fun b => b (putF size o.dst nx)) (sBox P o.op)

theorem obind_assoc {α β γ : Type} (x : Option α) (f : α → Option β) (g : β → Option γ) : obind (obind x f) g = obind x fun a => obind (f a) g := by cases x <;> rfl

theorem callGo {o : Oper} {f : FuncId} {args : List Operand} (hc : callOf o.op = some (f, args)) (J : JobF) (s : ASt) (h : AHeap) :
    opGo P J o s h = obind (avals s.t args) fun vs => bif' (bodied P f) (obind (J (.fn f) vs h) fun p => keepS s o.dst (some p.1) p.2) none := by
  obtain ⟨dst, op, ty, pos, after, guard⟩ := o
  cases op <;> first | (cases hc; done) | skip
  rename_i cl
  obtain ⟨callee, cargs, argTypes⟩ := cl
  cases callee <;> first | (cases hc; done) | skip
  rename_i x
  cases x <;> first | (cases hc; done) | skip
  cases hc
  show obind (obind (avals s.t cargs.toList) fun args => obind (callA P (.fn f [] []) args) fun n => some (n, h)) _ = _
  rw [obind_assoc]
  congr 1; funext vs
  have : callA P (.fn f [] []) vs = bif' (bodied P f) (some (.enter f vs)) none := by
    show bif' (bodied P f) (some (AN.enter f (([] ++ vs) ++ []))) none = _
    rw [List.append_nil]; rfl
  rw [this]
  cases bodied P f <;> rfl

theorem opF0_eq (size : Nat) (o : Oper) (nx : NB) (c : Ctx) (t : TT AV) (h : AHeap) : (opF0 P size o nx).run c t h = obind (opGo P c.J o (stOf size c t) h) (onward nx c.J) := by
  unfold opF0
  cases hs : sBox P o.op with
  | some b =>
    have q := sBox_ok hs
    show (b (putF size o.dst nx)).run c t h = _
    rw [q.1, opGo_simple q, obind_assoc]
    congr 1; funext p
    exact putF_eq size o.dst nx p.1 c t p.2
  | none =>
    cases hc : callOf o.op with
    | none => exact genF_eq ..
    | some p =>
      obtain ⟨f, args⟩ := p
      show (callF P f args (putF size o.dst nx)).run c t h = _
      rw [callF_eq, callGo hc, obind_assoc]
      show obind (avals t args) _ = obind (avals t args) _
      congr 1; funext vs
      cases bodied P f with
      | false => rfl
      | true =>
        show obind (c.J (.fn f) vs h) _ = obind (obind (c.J (.fn f) vs h) _) _
        rw [obind_assoc]
        congr 1; funext p
        exact putF_eq size o.dst nx (some p.1) c t p.2

/-- the temporary that a guard looks at -/
def guardTmp (ops : List Oper) (j : Nat) : Option Tmp := obind ops[j]? fun g => g.dst

/-- do it, if it is wanted -/
def guardF (ops : List Oper) (g : Nat × Bool) (yes no : NB) : NB :=
  Option.rec ⟨fun _ _ _ => none⟩ (fun d => TGet.rec (fun gt => CB.rec (fun k => ⟨fun c t h => Option.rec (motive := fun _ => KN) (fun _ _ _ => none) k (gt t) c t h⟩)
    (Bool.rec (cBoolTup (fun _ _ _ _ => none) (fun b => Bool.rec (motive := fun _ => KN) (fun c t h => yes.run c t h) (fun c t h => no.run c t h) b) (fun _ c t h => no.run c t h))
      (cBoolTup (fun _ _ _ _ => none) (fun b => Bool.rec (motive := fun _ => KN) (fun c t h => no.run c t h) (fun c t h => yes.run c t h) b) (fun _ c t h => no.run c t h)) g.2)) (getB d)) (guardTmp ops g.1)

theorem guardF_eq (ops : List Oper) (g : Nat × Bool) (yes no : NB) (size : Nat) (c : Ctx) (t : TT AV) (h : AHeap) :
    (guardF ops g yes no).run c t h = obind (wantA (stOf size c t) ops g.1 g.2) fun w => bif' w (yes.run c t h) (no.run c t h) := by
  obtain ⟨j, want⟩ := g
  have hw : wantA (stOf size c t) ops j want = obind (guardTmp ops j) fun d => obind (t.at d) fun v => match v with
    | .bool b => some (beqB b want)
    | .tup _ => some false
    | _ => none := by
    show obind ops[j]? _ = obind (obind ops[j]? _) _
    rw [obind_assoc]; rfl
  rw [hw]
  unfold guardF
  cases hd : guardTmp ops j with
  | none => simp only [hd]; rfl
  | some d =>
    simp only [hd]
    have e : ∀ (B : CB KN), NB.run (TGet.rec (motive := fun _ => NB) (fun gt => CB.rec (motive := fun _ => NB) (fun k => ⟨fun c t h => Option.rec (motive := fun _ => KN) (fun _ _ _ => none) k (gt t) c t h⟩) B) (getB d)) c t h =
        Option.rec (motive := fun _ => KN) (fun _ _ _ => none) B.run (t.at d) c t h := by
      intro B
      have : t.at d = (getB d).run t := by show TGet.go (getB d) t = _; cases getB (α := AV) d; rfl
      rw [this]
    rw [obind_some]
    refine (e _).trans ?_
    cases t.at d with
    | none => rfl
    | some v =>
      cases want <;> cases v <;> first | rfl | (rename_i b'; cases b' <;> rfl)

def opF (P : Program) (size : Nat) (ops : List Oper) (o : Oper) (nx : NB) : NB :=
  Option.rec (opF0 P size o nx) (fun g => guardF ops g (opF0 P size o nx) (VB.rec (fun k => ⟨fun c t h => k (some (.tup [])) c t h⟩) (putF size o.dst nx))) o.guard

theorem opF_eq (size : Nat) (ops : List Oper) (o : Oper) (nx : NB) (c : Ctx) (t : TT AV) (h : AHeap) : (opF P size ops o nx).run c t h = obind (opA P c.J ops o (stOf size c t) h) (onward nx c.J) := by
  unfold opF opA
  cases o.guard with
  | none => exact opF0_eq ..
  | some g =>
    show (guardF ops g (opF0 P size o nx) (VB.rec (motive := fun _ => NB) (fun k => ⟨fun c t h => k (some (.tup [])) c t h⟩) (putF size o.dst nx))).run c t h = obind (obind (wantA (stOf size c t) ops g.1 g.2) _) _
    rw [guardF_eq (size := size), obind_assoc]
    congr 1; funext w
    cases w with
    | true => exact opF0_eq ..
    | false =>
      show NB.run (VB.rec (motive := fun _ => NB) (fun k => ⟨fun c t h => k (some (.tup [])) c t h⟩) (putF size o.dst nx)) c t h = obind (keepS _ _ _ _) _
      rw [← putF_eq]

/-! how many temporaries there are stays -/

theorem putS_size {s s' : ASt} {d : Option Tmp} {v : Option AV} (h : putS s d v = some s') : s'.size = s.size := by
  cases d with
  | none => cases h; rfl
  | some d =>
    obtain ⟨n, t, df, rd⟩ := s
    rcases bif'_some (b := Nat.blt d n) h with ⟨_, h1⟩ | ⟨_, h1⟩
    · cases h1; rfl
    · cases h1

theorem keepS_size {s : ASt} {d : Option Tmp} {v : Option AV} {h : AHeap} {p : ASt × AHeap} (e : keepS s d v h = some p) : p.1.size = s.size := by
  obtain ⟨s', h1, h2⟩ := obind_eq e
  cases h2
  exact putS_size h1

theorem finish_size {J : JobF} {s : ASt} {d : Option Tmp} {x : AN} {h : AHeap} {p : ASt × AHeap} (e : finish J s d x h = some p) : p.1.size = s.size := by
  cases x with
  | val v => exact keepS_size e
  | skip => exact keepS_size e
  | enter f args => obtain ⟨q, _, h2⟩ := obind_eq e; exact keepS_size h2
  | yld b args => obtain ⟨q, _, h2⟩ := obind_eq e; exact keepS_size h2
  | dfr df => have := keepS_size (s := pushD s df) e; rw [this]; cases s; rfl

theorem opGo_size {J : JobF} {o : Oper} {s : ASt} {h : AHeap} {p : ASt × AHeap} (e : opGo P J o s h = some p) : p.1.size = s.size := by
  obtain ⟨x, _, h2⟩ := obind_eq e
  exact finish_size h2

theorem opA_size {J : JobF} {ops : List Oper} {o : Oper} {s : ASt} {h : AHeap} {p : ASt × AHeap} (e : opA P J ops o s h = some p) : p.1.size = s.size := by
  unfold opA at e
  cases hg : o.guard with
  | none => rw [hg] at e; exact opGo_size e
  | some g =>
    rw [hg] at e
    obtain ⟨w, _, h2⟩ := obind_eq (x := wantA s ops g.1 g.2) e
    rcases bif'_some h2 with ⟨_, h3⟩ | ⟨_, h3⟩
    · exact opGo_size h3
    · exact keepS_size h3

theorem opsA_size {J : JobF} {ops : List Oper} : ∀ {todo : List Oper} {s : ASt} {h : AHeap} {p : ASt × AHeap}, opsA P J ops todo s h = some p → p.1.size = s.size
  | [], s, h, p, e => by cases e; rfl
  | o :: l, s, h, p, e => by
    obtain ⟨q, h1, h2⟩ := obind_eq (x := opA P J ops o s h) e
    exact (opsA_size (todo := l) h2).trans (opA_size h1)

theorem runItem_size {J : JobF} {ops : List Oper} {it : PItem} {s : ASt} {h : AHeap} {p : ASt × AHeap} (e : runItem P J ops it s h = some p) : p.1.size = s.size := by
  rcases bif'_some (b := Nat.beq it.way 0) e with ⟨_, h1⟩ | ⟨_, h1⟩
  · obtain ⟨v, _, h2⟩ := obind_eq h1
    exact keepS_size h2
  · obtain ⟨q, h2, h3⟩ := obind_eq h1
    rcases bif'_some h3 with ⟨_, h4⟩ | ⟨_, h4⟩
    · cases h4; exact opA_size h2
    · cases h4

theorem runPlan_size {J : JobF} {ops : List Oper} : ∀ {l : List PItem} {s : ASt} {h : AHeap} {p : ASt × AHeap}, runPlan P J ops l s h = some p → p.1.size = s.size
  | [], s, h, p, e => by cases e; rfl
  | it :: l, s, h, p, e => by
    obtain ⟨q, h1, h2⟩ := obind_eq (x := runItem P J ops it s h) e
    exact (runPlan_size (l := l) h2).trans (runItem_size h1)

theorem stOf_eta {size : Nat} {J : JobF} {s : ASt} (h : s.size = size) : stOf size ⟨J, s.defers, s.round⟩ s.t = s := by subst h; rfl

/-! regions -/

def opsF (P : Program) (size : Nat) (ops todo : List Oper) (k : NB) : NB := List.rec k (fun o _ ih => opF P size ops o ih) todo

theorem opsF_eq (size : Nat) (ops : List Oper) (k : NB) : ∀ (todo : List Oper) (c : Ctx) (t : TT AV) (h : AHeap), (opsF P size ops todo k).run c t h = obind (opsA P c.J ops todo (stOf size c t) h) (onward k c.J)
  | [], c, t, h => rfl
  | o :: l, c, t, h => by
    show (opF P size ops o (opsF P size ops l k)).run c t h = obind (obind (opA P c.J ops o (stOf size c t) h) fun p => opsA P c.J ops l p.1 p.2) _
    rw [opF_eq, obind_assoc]
    cases ho : opA P c.J ops o (stOf size c t) h with
    | none => rfl
    | some p =>
      have hz : p.1.size = size := opA_size ho
      show (opsF P size ops l k).run ⟨c.J, p.1.defers, p.1.round⟩ p.1.t p.2 = _
      rw [opsF_eq size ops k l, stOf_eta hz]; rfl

/-- the slow way -/
def genItem (P : Program) (size : Nat) (ops : List Oper) (it : PItem) (nx : NB) : NB :=
  ⟨fun c t h => Option.rec (motive := fun _ => KN) (fun _ _ _ => none)
    (fun p c _ _ => Prod.rec (fun s h' => ASt.rec (fun _ t' df rd => forceT t' fun t' => forceH h' fun h' => nx.run ⟨c.J, df, rd⟩ t' h') s) p) (runItem P c.J ops it ⟨size, t, c.df, c.rd⟩ h) c t h⟩

theorem genItem_eq (size : Nat) (ops : List Oper) (it : PItem) (nx : NB) (c : Ctx) (t : TT AV) (h : AHeap) :
    (genItem P size ops it nx).run c t h = obind (runItem P c.J ops it (stOf size c t) h) (onward nx c.J) := by
  show Option.rec (motive := fun _ => KN) _ _ (runItem P c.J ops it (stOf size c t) h) c t h = _
  cases runItem P c.J ops it (stOf size c t) h with
  | none => rfl
  | some p =>
    obtain ⟨⟨sz, t', df, rd⟩, h'⟩ := p
    show forceT t' (fun t' => forceH h' fun h' => nx.run ⟨c.J, df, rd⟩ t' h') = _
    rw [forceT_eq, forceH_eq]; rfl

def itemF (P : Program) (size : Nat) (ops : List Oper) (it : PItem) (nx : NB) : NB :=
  Bool.rec (List.rec (opF P size ops it.row.op nx) (fun _ _ _ => genItem P size ops it nx) it.re)
    (Option.rec (genItem P size ops it nx) (fun _ => opF P size ops it.row.op nx) (qBox P it.row.op.op)) (Nat.beq it.way 0)

theorem evalQ_opA {o : Oper} {b : VB → NB} (hq : qBox P o.op = some b) (J : JobF) (size : Nat) (ops : List Oper) (c : Ctx) (t : TT AV) (h : AHeap) :
    (obind (evalQ P ops o (stOf size c t) h) fun v => keepS (stOf size c t) o.dst v h) = opA P J ops o (stOf size c t) h := by
  have q := qBox_ok hq
  have hgo : opGo P J o (stOf size c t) h = obind (quietV (execT P o.op (stOf size c t) h)) fun v => keepS (stOf size c t) o.dst v h := by
    have e : execT P o.op (stOf size c t) h = obind (quietV (execT P o.op (stOf size c t) h)) fun v => some (AN.val v, h) := q.2 size c t h
    show obind (execT P o.op (stOf size c t) h) _ = _
    rw [e]
    cases quietV (execT P o.op (stOf size c t) h) <;> rfl
  unfold evalQ opA
  cases o.guard with
  | none => exact hgo.symm
  | some g =>
    show obind (obind (wantA (stOf size c t) ops g.1 g.2) _) _ = obind (wantA (stOf size c t) ops g.1 g.2) _
    rw [obind_assoc]
    congr 1; funext w
    cases w with
    | true => exact hgo.symm
    | false => rfl

theorem itemF_eq (size : Nat) (ops : List Oper) (it : PItem) (nx : NB) (c : Ctx) (t : TT AV) (h : AHeap) :
    (itemF P size ops it nx).run c t h = obind (runItem P c.J ops it (stOf size c t) h) (onward nx c.J) := by
  unfold itemF
  cases hw : Nat.beq it.way 0 with
  | true =>
    cases hq : qBox P it.row.op.op with
    | none => exact genItem_eq ..
    | some b =>
      show (opF P size ops it.row.op nx).run c t h = _
      have : runItem P c.J ops it (stOf size c t) h = opA P c.J ops it.row.op (stOf size c t) h := by
        rw [← evalQ_opA hq c.J size ops c t h]
        show bif' (Nat.beq it.way 0) _ _ = _
        rw [hw]; rfl
      rw [this, opF_eq]
  | false =>
    cases hr : it.re with
    | cons o l => exact genItem_eq ..
    | nil =>
      show (opF P size ops it.row.op nx).run c t h = _
      have : runItem P c.J ops it (stOf size c t) h = opA P c.J ops it.row.op (stOf size c t) h := by
        show bif' (Nat.beq it.way 0) _ _ = _
        rw [hw, hr]
        show obind (opA P c.J ops it.row.op (stOf size c t) h) (fun p => some p) = _
        cases opA P c.J ops it.row.op (stOf size c t) h <;> rfl
      rw [this, opF_eq]

def planF (P : Program) (size : Nat) (ops : List Oper) (pl : List PItem) (k : NB) : NB := List.rec k (fun it _ ih => itemF P size ops it ih) pl

theorem planF_eq (size : Nat) (ops : List Oper) (k : NB) : ∀ (pl : List PItem) (c : Ctx) (t : TT AV) (h : AHeap), (planF P size ops pl k).run c t h = obind (runPlan P c.J ops pl (stOf size c t) h) (onward k c.J)
  | [], c, t, h => rfl
  | it :: l, c, t, h => by
    show (itemF P size ops it (planF P size ops l k)).run c t h = obind (obind (runItem P c.J ops it (stOf size c t) h) fun p => runPlan P c.J ops l p.1 p.2) _
    rw [itemF_eq, obind_assoc]
    cases ho : runItem P c.J ops it (stOf size c t) h with
    | none => rfl
    | some p =>
      have hz : p.1.size = size := runItem_size ho
      show (planF P size ops l k).run ⟨c.J, p.1.defers, p.1.round⟩ p.1.t p.2 = _
      rw [planF_eq size ops k l, stOf_eta hz]; rfl

end
end Go.Ab
