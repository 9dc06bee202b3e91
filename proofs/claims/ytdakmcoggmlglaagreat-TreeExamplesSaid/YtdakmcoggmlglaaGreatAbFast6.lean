/- The evaluator in boxes: code, functions, jobs. -/
import Derived.Test.YtdakmcoggmlglaaGreatAbFast5
set_option linter.all false
set_option linter.unusedVariables false
set_option linter.unusedSimpArgs false
namespace Go.Ab
open Go.RowKit
noncomputable section

variable {P : Program}

/-- behind a piece of code: what comes next if it ended in its place -/
def joinK (K : KN) (J : JobF) (x : Out) : Out :=
  Option.rec (motive := fun _ => JobF → Out) (fun _ => none) (fun p J => Prod.rec (motive := fun _ => JobF → Out) (fun e q => AExit.rec (motive := fun _ => ASt × AHeap → JobF → Out)
    (fun q J => Prod.rec (motive := fun _ => JobF → Out) (fun s h J => ASt.rec (motive := fun _ => AHeap → JobF → Out) (fun _ t df rd h J => K ⟨J, df, rd⟩ t h) s h J) q J)
    (fun i q _ => some (.exit i, q)) (fun l q _ => some (.goto l, q)) (fun q _ => some (.ret, q)) e q) p J) x J

/-- the same; an exit of the number id ends here too -/
def joinB (id : Nat) (K : KN) (J : JobF) (x : Out) : Out :=
  Option.rec (motive := fun _ => JobF → Out) (fun _ => none) (fun p J => Prod.rec (motive := fun _ => JobF → Out) (fun e q => AExit.rec (motive := fun _ => ASt × AHeap → JobF → Out)
    (fun q J => Prod.rec (motive := fun _ => JobF → Out) (fun s h J => ASt.rec (motive := fun _ => AHeap → JobF → Out) (fun _ t df rd h J => K ⟨J, df, rd⟩ t h) s h J) q J)
    (fun i q J => Bool.rec (motive := fun _ => ASt × AHeap → JobF → Out) (fun q _ => some (.exit i, q))
      (fun q J => Prod.rec (motive := fun _ => JobF → Out) (fun s h J => ASt.rec (motive := fun _ => AHeap → JobF → Out) (fun _ t df rd h J => K ⟨J, df, rd⟩ t h) s h J) q J) (Nat.beq i id) q J)
    (fun l q _ => some (.goto l, q)) (fun q _ => some (.ret, q)) e q) p J) x J

/-- the same; a jump ends it -/
def joinS (K : KN) (J : JobF) (x : Out) : Out :=
  Option.rec (motive := fun _ => JobF → Out) (fun _ => none) (fun p J => Prod.rec (motive := fun _ => JobF → Out) (fun e q => AExit.rec (motive := fun _ => ASt × AHeap → JobF → Out)
    (fun q J => Prod.rec (motive := fun _ => JobF → Out) (fun s h J => ASt.rec (motive := fun _ => AHeap → JobF → Out) (fun _ t df rd h J => K ⟨J, df, rd⟩ t h) s h J) q J)
    (fun i q _ => some (.exit i, q)) (fun l q _ => none) (fun q _ => some (.ret, q)) e q) p J) x J

def goOn (k : NB) (J : JobF) (p : AExit × ASt × AHeap) : Out :=
  match p.1 with
  | .normal => onward k J p.2
  | e => some (e, p.2)

theorem joinK_eq (k : NB) (J : JobF) (x : Out) : joinK k.run J x = obind x (goOn k J) := by
  cases x with
  | none => rfl
  | some p => obtain ⟨e, ⟨sz, t, df, rd⟩, h⟩ := p; cases e <;> rfl

def doneB (size : Nat) : NB := ⟨fun c t h => some (.normal, ⟨size, t, c.df, c.rd⟩, h)⟩

def loopF (L : Nat) (b : NB) : KN := fun c t h => Nat.rec (motive := fun _ => KN) (fun _ _ _ => none) (fun _ ih c t h => joinK ih c.J (b.run c t h)) L c t h

/-- code, and what comes next -/
def codeF (P : Program) (size L : Nat) (c : Code) : NB → NB :=
  Code.rec (fun k => k)
    (fun _ ops draw k => Bool.rec (opsF P size ops.toList ops.toList k) (Option.rec ⟨fun _ _ _ => none⟩ (fun pl => planF P size ops.toList pl k) (planOf P ops.toList)) draw)
    (fun _ _ a b k => a (b k))
    (fun x _ _ a b k => OB.rec (fun g => CB.rec (fun f => ⟨fun c t h => Option.rec (motive := fun _ => KN) (fun _ _ _ => none) f (g t) c t h⟩)
      (cBool (fun _ _ _ _ => none) (fun v => Bool.rec (motive := fun _ => KN) (fun c t h => (b k).run c t h) (fun c t h => (a k).run c t h) v))) (opnd x))
    (fun id _ b k => ⟨fun c t h => joinB id (fun c t h => k.run c t h) c.J ((b (doneB size)).run c t h)⟩)
    (fun _ b k => ⟨fun c t h => joinK (fun c t h => k.run c t h) c.J (loopF L (b (doneB size)) c t h)⟩)
    (fun f ps a b _ _ k => ⟨fun c t h => joinK (fun c t h => forceT t fun t => forceH h fun h => k.run c t h) c.J (rangeA P c.J f ps.toList a b ⟨size, t, c.df, c.rd⟩ h)⟩)
    (fun id _ => ⟨fun c t h => some (.exit id, ⟨size, t, c.df, c.rd⟩, h)⟩)
    (fun _ b k => ⟨fun c t h => joinS (fun c t h => k.run c t h) c.J ((b (doneB size)).run c t h)⟩)
    (fun _ k => k)
    (fun l _ => ⟨fun c t h => some (.goto l, ⟨size, t, c.df, c.rd⟩, h)⟩)
    (fun _ => ⟨fun c t h => some (.ret, ⟨size, t, c.df, c.rd⟩, h)⟩)
    (fun _ _ => ⟨fun _ _ _ => none⟩) c

theorem loopN_size {b : Run} (hb : ∀ s h p, b s h = some p → p.2.1.size = s.size) : ∀ (n : Nat) (s : ASt) (h : AHeap) (p : AExit × ASt × AHeap), loopN b n s h = some p → p.2.1.size = s.size
  | 0, s, h, p, e => by cases e
  | n + 1, s, h, p, e => by
    obtain ⟨⟨x, s', h'⟩, h1, h2⟩ := obind_eq (x := b s h) e
    have hz := hb s h _ h1
    cases x with
    | normal => exact (loopN_size hb n s' h' p h2).trans hz
    | exit i => cases h2; exact hz
    | goto l => cases h2; exact hz
    | ret => cases h2; exact hz

theorem rangeA_size {J : JobF} {f : Operand} {ps : List Tmp} {a b : Code} {s : ASt} {h : AHeap} {p : AExit × ASt × AHeap} (e : rangeA P J f ps a b s h = some p) : p.2.1.size = s.size := by
  obtain ⟨n, t, df, rd⟩ := s
  cases rd with
  | some r => cases e
  | none =>
    obtain ⟨fv, _, h1⟩ := obind_eq (x := aval t f) e
    rw [forceN_eq, forceN_eq] at h1
    cases fv <;> first | (cases h1; done) | skip
    rcases bif'_some h1 with ⟨_, h2⟩ | ⟨_, h2⟩
    case inr => cases h2
    obtain ⟨q, _, h3⟩ := obind_eq h2
    obtain ⟨o, _, h4⟩ := obind_eq h3
    split at h4 <;> first | (cases h4; done) | (cases h4; rfl)

theorem evC_size {J : JobF} {L : Nat} : ∀ {c : Code} {s : ASt} {h : AHeap} {p : AExit × ASt × AHeap}, evC P J L c s h = some p → p.2.1.size = s.size := by
  intro c
  induction c with
  | skip => intro s h p e; cases e; rfl
  | label l => intro s h p e; cases e; rfl
  | exit i => intro s h p e; cases e; rfl
  | goto l => intro s h p e; cases e; rfl
  | ret => intro s h p e; cases e; rfl
  | refuse w => intro s h p e; cases e
  | region id ops draw =>
    intro s h p e
    cases draw with
    | false =>
      obtain ⟨q, h1, h2⟩ := obind_eq (x := opsA P J ops.toList ops.toList s h) e
      cases h2; exact opsA_size h1
    | true =>
      obtain ⟨pl, _, h1⟩ := obind_eq (x := planOf P ops.toList) e
      obtain ⟨q, h2, h3⟩ := obind_eq h1
      cases h3; exact runPlan_size h2
  | seq a b iha ihb =>
    intro s h p e
    obtain ⟨⟨x, s', h'⟩, h1, h2⟩ := obind_eq (x := evC P J L a s h) e
    have hz := iha h1
    cases x with
    | normal => exact (ihb h2).trans hz
    | exit i => cases h2; exact hz
    | goto l => cases h2; exact hz
    | ret => cases h2; exact hz
  | cond x a b iha ihb =>
    intro s h p e
    obtain ⟨v, hv, h1⟩ := obind_eq (x := aval (tmpsOf s) x) e
    clear hv
    cases v <;> first | (cases h1; done) | skip
    rename_i w
    cases w with
    | true => exact iha h1
    | false => exact ihb h1
  | block id b ih =>
    intro s h p e
    obtain ⟨⟨x, s', h'⟩, h1, h2⟩ := obind_eq (x := evC P J L b s h) e
    have hz := ih h1
    cases x with
    | normal => cases h2; exact hz
    | exit i =>
      have h3 : bif' (Nat.beq i id) (some (AExit.normal, s', h')) (some (AExit.exit i, s', h')) = some p := h2
      rcases bif'_some h3 with ⟨_, h4⟩ | ⟨_, h4⟩ <;> (cases h4; exact hz)
    | goto l => cases h2; exact hz
    | ret => cases h2; exact hz
  | loop b ih => intro s h p e; exact loopN_size (fun s h p e => ih e) L s h p e
  | rangeFunc f ps a b _ _ => intro s h p e; exact rangeA_size e
  | scope b ih =>
    intro s h p e
    obtain ⟨⟨x, s', h'⟩, h1, h2⟩ := obind_eq (x := evC P J L b s h) e
    have hz := ih h1
    cases x with
    | normal => cases h2; exact hz
    | exit i => cases h2; exact hz
    | goto l => cases h2
    | ret => cases h2; exact hz

theorem onward_stOf (k : NB) (J : JobF) (size : Nat) (c : Ctx) (t : TT AV) (h : AHeap) (hJ : c.J = J) : onward k J (stOf size c t, h) = k.run c t h := by subst hJ; rfl

theorem doneB_onward {size : Nat} {J : JobF} {p : ASt × AHeap} (h : p.1.size = size) : onward (doneB size) J p = some (.normal, p) := by
  obtain ⟨⟨n, t, df, rd⟩, g⟩ := p
  cases h; rfl

theorem goOn_done {size : Nat} {J : JobF} {x : Out} (hx : ∀ p, x = some p → p.2.1.size = size) : obind x (goOn (doneB size) J) = x := by
  cases x with
  | none => rfl
  | some p =>
    have hz := hx p rfl
    obtain ⟨e, q⟩ := p
    cases e with
    | normal => exact doneB_onward hz
    | exit i => rfl
    | goto l => rfl
    | ret => rfl

theorem loopF_eq {size : Nat} {b : NB} {r : Run} (hr : ∀ s h p, r s h = some p → p.2.1.size = s.size) (hb : ∀ c t h, b.run c t h = r (stOf size c t) h) :
    ∀ (L : Nat) (c : Ctx) (t : TT AV) (h : AHeap), loopF L b c t h = loopN r L (stOf size c t) h
  | 0, c, t, h => rfl
  | n + 1, c, t, h => by
    have ih := loopF_eq hr hb n
    show joinK (fun c t h => loopF n b c t h) c.J (b.run c t h) = obind (r (stOf size c t) h) _
    rw [hb]
    cases e : r (stOf size c t) h with
    | none => rfl
    | some p =>
      have hz := hr _ _ _ e
      obtain ⟨x, ⟨n', t', df', rd'⟩, h'⟩ := p
      cases x with
      | normal =>
        show loopF n b ⟨c.J, df', rd'⟩ t' h' = loopN r n ⟨n', t', df', rd'⟩ h'
        rw [ih]
        have : n' = size := hz
        subst this; rfl
      | exit i => rfl
      | goto l => rfl
      | ret => rfl

theorem codeF_eq (size L : Nat) : ∀ (code : Code) (k : NB) (c : Ctx) (t : TT AV) (h : AHeap), (codeF P size L code k).run c t h = obind (evC P c.J L code (stOf size c t) h) (goOn k c.J) := by
  intro code
  induction code with
  | skip => intro k c t h; rfl
  | label l => intro k c t h; rfl
  | exit i => intro k c t h; rfl
  | goto l => intro k c t h; rfl
  | ret => intro k c t h; rfl
  | refuse w => intro k c t h; rfl
  | region id ops draw =>
    intro k c t h
    cases draw with
    | false =>
      show (opsF P size ops.toList ops.toList k).run c t h = obind (obind (opsA P c.J ops.toList ops.toList (stOf size c t) h) fun p => some (AExit.normal, p)) _
      rw [opsF_eq, obind_assoc]; rfl
    | true =>
      show NB.run (Option.rec (motive := fun _ => NB) ⟨fun _ _ _ => none⟩ (fun pl => planF P size ops.toList pl k) (planOf P ops.toList)) c t h = obind (obind (planOf P ops.toList) fun pl => obind (runPlan P c.J ops.toList pl (stOf size c t) h) fun p => some (AExit.normal, p)) _
      cases planOf P ops.toList with
      | none => rfl
      | some pl =>
        show (planF P size ops.toList pl k).run c t h = obind (obind (runPlan P c.J ops.toList pl (stOf size c t) h) fun p => some (AExit.normal, p)) _
        rw [planF_eq, obind_assoc]; rfl
  | seq a b iha ihb =>
    intro k c t h
    show (codeF P size L a (codeF P size L b k)).run c t h = obind (obind (evC P c.J L a (stOf size c t) h) _) _
    rw [iha, obind_assoc]
    cases e : evC P c.J L a (stOf size c t) h with
    | none => rfl
    | some p =>
      have hz : p.2.1.size = size := evC_size e
      obtain ⟨x, s', h'⟩ := p
      cases x with
      | normal =>
        show (codeF P size L b k).run ⟨c.J, s'.defers, s'.round⟩ s'.t h' = _
        rw [ihb, stOf_eta hz]; rfl
      | exit i => rfl
      | goto l => rfl
      | ret => rfl
  | cond x a b iha ihb =>
    intro k c t h
    have e : (codeF P size L (.cond x a b) k).run c t h = Option.rec (motive := fun _ => KN) (fun _ _ _ => none)
        (cBool (fun _ _ _ _ => none) (fun v => Bool.rec (motive := fun _ => KN) (fun c t h => (codeF P size L b k).run c t h) (fun c t h => (codeF P size L a k).run c t h) v)).run (aval t x) c t h := by
      rw [← opnd_eq]; rfl
    rw [e]
    show _ = obind (obind (aval t x) _) _
    cases aval t x with
    | none => rfl
    | some v =>
      cases v <;> first | rfl | skip
      rename_i w
      cases w with
      | true => exact iha k c t h
      | false => exact ihb k c t h
  | block id b ih =>
    intro k c t h
    show joinB id (fun c t h => k.run c t h) c.J ((codeF P size L b (doneB size)).run c t h) = obind (obind (evC P c.J L b (stOf size c t) h) _) _
    rw [ih, goOn_done (size := size) (x := evC P _ L b (stOf size _ t) h) (fun p e => evC_size e)]
    cases evC P c.J L b (stOf size c t) h with
    | none => rfl
    | some p =>
      obtain ⟨x, ⟨n', t', df', rd'⟩, h'⟩ := p
      cases x with
      | normal => rfl
      | exit i =>
        show Bool.rec (motive := fun _ => ASt × AHeap → JobF → Out) _ _ (Nat.beq i id) (⟨n', t', df', rd'⟩, h') c.J = obind (bif' (Nat.beq i id) _ _) _
        cases Nat.beq i id <;> rfl
      | goto l => rfl
      | ret => rfl
  | loop b ih =>
    intro k c t h
    show joinK k.run c.J (loopF L (codeF P size L b (doneB size)) c t h) = _
    have hb : ∀ c' t h, (codeF P size L b (doneB size)).run c' t h = evC P c'.J L b (stOf size c' t) h := fun c' t h => by
      rw [ih, goOn_done (size := size) (x := evC P _ L b (stOf size _ t) h) (fun p e => evC_size e)]
    rw [joinK_eq]
    congr 1
    have key : ∀ (n : Nat) (J : JobF) (c : Ctx) (t : TT AV) (h : AHeap), c.J = J → loopF n (codeF P size L b (doneB size)) c t h = loopN (evC P J L b) n (stOf size c t) h := by
      intro n
      induction n with
      | zero => intro J c t h hJ; rfl
      | succ n ihn =>
        intro J c t h hJ
        subst hJ
        show joinK (fun c t h => loopF n (codeF P size L b (doneB size)) c t h) c.J ((codeF P size L b (doneB size)).run c t h) = obind (evC P c.J L b (stOf size c t) h) _
        rw [hb]
        cases e : evC P c.J L b (stOf size c t) h with
        | none => rfl
        | some p =>
          have hz := evC_size e
          obtain ⟨x, ⟨n', t', df', rd'⟩, h'⟩ := p
          cases x with
          | normal =>
            show loopF n _ ⟨c.J, df', rd'⟩ t' h' = loopN _ n ⟨n', t', df', rd'⟩ h'
            rw [ihn c.J ⟨c.J, df', rd'⟩ t' h' rfl]
            have : n' = size := hz
            subst this; rfl
          | exit i => rfl
          | goto l => rfl
          | ret => rfl
    exact key L c.J c t h rfl
  | rangeFunc f ps a b _ _ =>
    intro k c t h
    have e : (fun c t h => forceT t fun t => forceH h fun h => k.run c t h) = k.run := by
      funext c t h; rw [forceT_eq, forceH_eq]
    show joinK (fun c t h => forceT t fun t => forceH h fun h => k.run c t h) c.J (rangeA P c.J f ps.toList a b (stOf size c t) h) = _
    rw [e, joinK_eq]; rfl
  | scope b ih =>
    intro k c t h
    show joinS (fun c t h => k.run c t h) c.J ((codeF P size L b (doneB size)).run c t h) = obind (obind (evC P c.J L b (stOf size c t) h) _) _
    rw [ih, goOn_done (size := size) (x := evC P _ L b (stOf size _ t) h) (fun p e => evC_size e)]
    cases evC P c.J L b (stOf size c t) h with
    | none => rfl
    | some p =>
      obtain ⟨x, ⟨n', t', df', rd'⟩, h'⟩ := p
      cases x <;> rfl

/-! functions -/

def putArgsK {β : Type} (l : List AV) : Nat → TT AV → (TT AV → β) → β :=
  List.rec (fun _ t k => k t) (fun v _ ih i t k => TPut.run (putB i) (some v) t fun t' => ih (Nat.succ i) t' k) l

theorem putArgsK_eq {β : Type} : ∀ (l : List AV) (i : Nat) (t : TT AV) (k : TT AV → β), putArgsK l i t k = k (putArgs l i t)
  | [], i, t, k => rfl
  | v :: l, i, t, k => by
    show TPut.run (putB i) (some v) t (fun t' => putArgsK l (Nat.succ i) t' k) = _
    have e : TPut.run (putB i) (some v) t (fun t' => putArgsK l (Nat.succ i) t' k) = (putB i).go (some v) t (fun t' => putArgsK l (Nat.succ i) t' k) := by
      show _ = TPut.go (putB i) (some v) t _
      cases putB (α := AV) (β := β) i; rfl
    rw [e, putB_go, putArgsK_eq l]; rfl

def lenF (l : List AV) : Nat := List.rec 0 (fun _ _ ih => Nat.succ ih) l
theorem lenF_eq : ∀ l : List AV, lenF l = l.length
  | [] => rfl
  | _ :: l => by show Nat.succ (lenF l) = _; rw [lenF_eq l]; rfl

/-- what a function hands back -/
structure RsB where
  run : TT AV → AHeap → Option (AV × AHeap)

def oneK (l : List AV) (k : AV → Option (AV × AHeap)) : Option (AV × AHeap) :=
  List.rec (motive := fun _ => (AV → Option (AV × AHeap)) → Option (AV × AHeap)) (fun k => k (.tup [])) (fun v r _ k => List.rec (motive := fun _ => AV → (AV → Option (AV × AHeap)) → Option (AV × AHeap)) (fun v k => k v) (fun u r' _ v k => k (.tup (v :: u :: r'))) r v k) l k
theorem oneK_eq (l : List AV) (k : AV → Option (AV × AHeap)) : oneK l k = k (oneOf l) := by
  cases l with
  | nil => rfl
  | cons v r => cases r <;> rfl

def resGen (P : Program) (rs : List ResultVar) : RsB := ⟨fun t h => Option.rec (motive := fun _ => AHeap → Option (AV × AHeap)) (fun _ => none) (fun l h => oneK l fun v => some (v, h)) (resultsA P t h rs) h⟩
def resB (P : Program) (rs : List ResultVar) : RsB :=
  List.rec (resGen P rs) (fun r rest _ => List.rec (ResultVar.rec (fun i => TGet.rec (fun g => ⟨fun t h => Option.rec (motive := fun _ => AHeap → Option (AV × AHeap)) (fun _ => none) (fun v h => some (v, h)) (g t) h⟩) (getB i))
    (fun _ _ => resGen P rs) r) (fun _ _ _ => resGen P rs) rest) rs

theorem resB_eq (rs : List ResultVar) (t : TT AV) (h : AHeap) : (resB P rs).run t h = obind (resultsA P t h rs) fun l => some (oneOf l, h) := by
  have gen : (resGen P rs).run t h = obind (resultsA P t h rs) fun l => some (oneOf l, h) := by
    show Option.rec (motive := fun _ => AHeap → Option (AV × AHeap)) _ _ (resultsA P t h rs) h = _
    cases resultsA P t h rs with
    | none => rfl
    | some l => exact oneK_eq l _
  cases rs with
  | nil => exact gen
  | cons r rest =>
    cases rest with
    | cons _ _ => exact gen
    | nil =>
      cases r with
      | cell a ty => exact gen
      | tmp i =>
        have e : (resB P [.tmp i]).run t h = Option.rec (motive := fun _ => AHeap → Option (AV × AHeap)) (fun _ => none) (fun v h => some (v, h)) (t.at i) h := by
          have e1 : t.at i = (getB i).run t := by show TGet.go (getB i) t = _; cases getB (α := AV) i; rfl
          rw [e1]; rfl
        rw [e]
        show _ = obind (obind (t.at i) _) _
        cases t.at i <;> rfl

def leaveK (P : Program) (rs : List ResultVar) (res : TT AV → AHeap → Option (AV × AHeap)) (J : JobF) (q : ASt × AHeap) : Option (AV × AHeap) :=
  Prod.rec (motive := fun _ => JobF → Option (AV × AHeap)) (fun s h J => ASt.rec (motive := fun _ => AHeap → JobF → Option (AV × AHeap)) (fun n t df rd h J =>
    List.rec (motive := fun _ => TT AV → AHeap → JobF → Option (AV × AHeap)) (fun t h _ => res t h)
      (fun d l _ t h J => Option.rec (motive := fun _ => Option (AV × AHeap)) none (fun p => Prod.rec (fun v h => forceH h fun h => some (v, h)) p) (leaveA P J rs ⟨n, t, d :: l, rd⟩ h)) df t h J) s h J) q J

theorem leaveK_eq (rs : List ResultVar) (J : JobF) (q : ASt × AHeap) : leaveK P rs (resB P rs).run J q = leaveA P J rs q.1 q.2 := by
  obtain ⟨⟨n, t, df, rd⟩, h⟩ := q
  cases df with
  | nil => exact resB_eq rs t h
  | cons d l =>
    show Option.rec (motive := fun _ => Option (AV × AHeap)) none _ (leaveA P J rs ⟨n, t, d :: l, rd⟩ h) = _
    cases leaveA P J rs ⟨n, t, d :: l, rd⟩ h with
    | none => rfl
    | some p => obtain ⟨v, h'⟩ := p; exact forceH_eq h' fun h => some (v, h)

def endK (K : ASt × AHeap → Option (AV × AHeap)) (x : Out) : Option (AV × AHeap) :=
  Option.rec (motive := fun _ => Option (AV × AHeap)) none (fun p => Prod.rec (fun e q => AExit.rec (motive := fun _ => ASt × AHeap → Option (AV × AHeap)) K (fun _ _ => none) (fun _ _ => none) K e q) p) x

structure FB where
  run : JobF → List AV → AHeap → Option (AV × AHeap)

def fnF (P : Program) (L : Nat) (f : FuncId) : FB :=
  Option.rec ⟨fun _ _ _ => none⟩ (fun fn => Option.rec ⟨fun _ _ _ => none⟩ (fun body => RsB.rec (fun res =>
    ⟨fun J args h => Bool.rec (motive := fun _ => Option (AV × AHeap)) none (putArgsK args 0 .empty fun t => endK (fun q => leaveK P fn.results.toList res J q) ((codeF P fn.ntmps L body (doneB fn.ntmps)).run ⟨J, [], none⟩ t h)) (Nat.ble (lenF args) fn.ntmps)⟩)
    (resB P fn.results.toList)) fn.body) P.funcs[f]?

theorem fnF_eq (L : Nat) (f : FuncId) (J : JobF) (args : List AV) (h : AHeap) : (fnF P L f).run J args h = callFn P J L f args h := by
  unfold fnF callFn
  cases P.funcs[f]? with
  | none => rfl
  | some fn =>
    rw [obind_some]
    show FB.run (Option.rec (motive := fun _ => FB) _ _ fn.body) J args h = _
    cases hb : fn.body with
    | none => rfl
    | some body =>
      rw [obind_some]
      show Bool.rec (motive := fun _ => Option (AV × AHeap)) none (putArgsK args 0 .empty fun t => endK (fun q => leaveK P fn.results.toList (resB P fn.results.toList).run J q) ((codeF P fn.ntmps L body (doneB fn.ntmps)).run ⟨J, [], none⟩ t h)) (Nat.ble (lenF args) fn.ntmps) = _
      rw [lenF_eq, putArgsK_eq]
      cases Nat.ble args.length fn.ntmps with
      | false => rfl
      | true =>
        show endK _ ((codeF P fn.ntmps L body (doneB fn.ntmps)).run ⟨J, [], none⟩ (putArgs args 0 .empty) h) = obind (evC P J L body (stOf fn.ntmps ⟨J, [], none⟩ (putArgs args 0 .empty)) h) _
        rw [codeF_eq, goOn_done (size := fn.ntmps) (x := evC P J L body (stOf fn.ntmps ⟨J, [], none⟩ (putArgs args 0 .empty)) h) (fun p e => evC_size e)]
        cases evC P J L body (stOf fn.ntmps ⟨J, [], none⟩ (putArgs args 0 .empty)) h with
        | none => rfl
        | some p =>
          obtain ⟨e, q⟩ := p
          cases e with
          | normal => exact leaveK_eq fn.results.toList J q
          | ret => exact leaveK_eq fn.results.toList J q
          | exit i => rfl
          | goto l => rfl

/-- n: how deep calls may go -/
def jobF (P : Program) (L : Nat) (n : Nat) : JobF :=
  Nat.rec (fun _ _ _ => none) (fun _ ih j => Job.rec (motive := fun _ => List AV → AHeap → Option (AV × AHeap)) (fun f => (fnF P L f).run ih) (callD P ih L) (roundA P ih L) j) n

theorem jobF_eq (L : Nat) : ∀ n, jobF P L n = job P L n
  | 0 => rfl
  | n + 1 => by
    funext j args h
    show Job.rec (motive := fun _ => List AV → AHeap → Option (AV × AHeap)) (fun f => (fnF P L f).run (jobF P L n)) (callD P (jobF P L n) L) (roundA P (jobF P L n) L) j args h = Job.rec (callFn P (job P L n) L) (callD P (job P L n) L) (roundA P (job P L n) L) j args h
    rw [jobF_eq L n]
    cases j with
    | fn f => exact fnF_eq ..
    | dfn f => rfl
    | rnd b => rfl

end
end Go.Ab
