/- The evaluator in boxes: operations on two values; what changes memory; calls. -/
import Derived.Test.YtdakmcoggmlglaaGreatAbFast2
set_option linter.all false
set_option linter.unusedVariables false
set_option linter.unusedSimpArgs false
namespace Go.Ab
open Go.RowKit
noncomputable section

variable {P : Program}

structure C2 where
  run : AV → AV → KN

def bin2 (x y : Operand) (kv : VB) (B : KV → C2) : NB :=
  OB.rec (fun gx => OB.rec (fun gy => VB.rec (fun f => C2.rec (fun k => ⟨fun c t h => Option.rec (motive := fun _ => KN) (fun _ _ _ => none)
    (fun v c t h => Option.rec (motive := fun _ => AV → KN) (fun _ _ _ _ => none) (fun u v => k v u) (gy t) v c t h) (gx t) c t h⟩) (B f)) kv) (opnd y)) (opnd x)

theorem c2_eta {β : Type} (b : C2) (F : (AV → AV → KN) → β) : (C2.rec (motive := fun _ => β) F b) = F b.run := by cases b; rfl

theorem bin2_eq (x y : Operand) (kv : VB) (B : KV → C2) (E : AV → AV → AHeap → Option AV) (hB : ∀ v u c t h, (B kv.run).run v u c t h = obind (E v u h) fun r => kv.run (some r) c t h)
    (c : Ctx) (t : TT AV) (h : AHeap) : (bin2 x y kv B).run c t h = obind (obind (aval t x) fun v => obind (aval t y) fun u => obind (E v u h) fun r => some (some r)) fun v => kv.run v c t h := by
  simp only [bin2, ob_eta, vb_eta, c2_eta, opnd_eq]
  cases aval t x with
  | none => rfl
  | some v =>
    show (Option.rec (motive := fun _ => AV → KN) (fun _ _ _ _ => none) (fun u v => (B kv.run).run v u) (aval t y) v c t h) = obind (obind (aval t y) _) _
    cases aval t y with
    | none => rfl
    | some u =>
      show (B kv.run).run v u c t h = obind (obind (E v u h) _) _
      rw [hB]
      cases E v u h <;> rfl

theorem bin2_ok (o : Op) (x y : Operand) (B : KV → C2) (E : AV → AV → AHeap → Option AV) (hB : ∀ f v u c t h, (B f).run v u c t h = obind (E v u h) fun r => f (some r) c t h)
    (hx : ∀ s h, execT P o s h = obind (aval (tmpsOf s) x) fun v => obind (aval (tmpsOf s) y) fun u => obind (E v u h) fun r => some (.val (some r), h)) : QOk P o (fun kv => bin2 x y kv B) := by
  have key : ∀ (t : TT AV) (h : AHeap), quietV (obind (aval t x) fun v => obind (aval t y) fun u => obind (E v u h) fun r => some (AN.val (some r), h)) =
      obind (aval t x) fun v => obind (aval t y) fun u => obind (E v u h) fun r => some (some r) := by
    intro t h
    cases aval t x with
    | none => rfl
    | some v =>
      cases aval t y with
      | none => rfl
      | some u => show quietV (obind (E v u h) _) = obind (E v u h) _; cases E v u h <;> rfl
  refine ⟨fun kv size c t h => ?_, fun size c t h => ?_⟩
  · rw [bin2_eq x y kv B E (fun v u c t h => hB _ v u c t h), qv, hx]
    exact congrArg (fun z => obind z fun v => kv.run v c t h) (key t h).symm
  · rw [qv, hx]
    show (obind (aval t x) _) = obind (quietV (obind (aval t x) _)) _
    cases aval t x with
    | none => rfl
    | some v =>
      show (obind (aval t y) _) = obind (quietV (obind (aval t y) _)) _
      cases aval t y with
      | none => rfl
      | some u => show (obind (E v u h) _) = obind (quietV (obind (E v u h) _)) _; cases E v u h <;> rfl

/-- the slow way -/
def slow2 (E : AV → AV → AHeap → Option AV) (f : KV) : C2 := ⟨fun v u c t h => gotK f (E v u h) c t h⟩
theorem slow2_eq (E : AV → AV → AHeap → Option AV) (f : KV) (v u : AV) (c : Ctx) (t : TT AV) (h : AHeap) : (slow2 E f).run v u c t h = obind (E v u h) fun r => f (some r) c t h := gotK_eq ..

theorem stay2 (x : Option AV) (h : AHeap) : stay h x = obind x fun r => some (.val (some r), h) := by cases x <;> rfl

theorem index_ok (ty : TypeId) (x y : Operand) : QOk P (.index ty x y) (fun kv => bin2 x y kv (slow2 fun v u _ => indexA P ty v u)) :=
  bin2_ok _ x y _ _ (fun f v u c t h => slow2_eq ..) (fun s h => rfl)

theorem lookup_ok (ty : TypeId) (x y : Operand) (ok : Bool) : QOk P (.lookup ty x y ok) (fun kv => bin2 x y kv (slow2 fun v u h => lookupA P ty v u ok h)) :=
  bin2_ok _ x y _ _ (fun f v u c t h => slow2_eq ..) (fun s h => rfl)

/-! whole numbers -/

def slowBin (P : Program) (op : BinOp) (ty : TypeId) (cst : Bool) (v u : AV) (h : AHeap) : Option AV := bif' (eqGuardA P ty cst v u) (binA P op ty v u h) none

abbrev N2 := Nat → Nat → KN
structure NB2 where
  run : N2

def topN : Nat := 9223372036854775807
def nat64 (n : Nat) : AV := .int .i64 (.ofNat n)

def tf (f : KV) (b : Bool) : KN := Bool.rec (motive := fun _ => KN) (f (some (.bool false))) (f (some (.bool true))) b
def capped (f : KV) (S : N2) (n : Nat → Nat → Nat) : NB2 :=
  ⟨fun a b c t h => Bool.rec (motive := fun _ => N2) S (fun a b => f (some (.int .i64 (.ofNat (n a b))))) (Nat.ble (n a b) 9223372036854775807) a b c t h⟩
def tested (f : KV) (p : Nat → Nat → Bool) : NB2 := ⟨fun a b c t h => Bool.rec (motive := fun _ => KN) (f (some (.bool false))) (f (some (.bool true))) (p a b) c t h⟩
def tested' (f : KV) (p : Nat → Nat → Bool) : NB2 := ⟨fun a b c t h => Bool.rec (motive := fun _ => KN) (f (some (.bool true))) (f (some (.bool false))) (p a b) c t h⟩

def numB (op : BinOp) (f : KV) (S : N2) : NB2 :=
  BinOp.rec (capped f S Nat.add)
    ⟨fun a b c t h => Bool.rec (motive := fun _ => N2) S (fun a b => Bool.rec (motive := fun _ => N2) S (fun a b => f (some (.int .i64 (.ofNat (Nat.sub a b))))) (Nat.ble (Nat.sub a b) 9223372036854775807) a b) (Nat.ble b a) a b c t h⟩
    (capped f S Nat.mul)
    ⟨fun a b c t h => Bool.rec (motive := fun _ => N2) S (fun a b => Bool.rec (motive := fun _ => N2) S (fun a b => f (some (.int .i64 (.ofNat (Nat.div a b))))) (Nat.ble (Nat.div a b) 9223372036854775807) a b) (Nat.ble 1 b) a b c t h⟩
    ⟨fun a b c t h => Bool.rec (motive := fun _ => N2) S (fun a b => f (some (.int .i64 (.ofNat (Nat.mod a b))))) (Nat.ble 1 b) a b c t h⟩
    ⟨S⟩ ⟨S⟩ ⟨S⟩ ⟨S⟩ ⟨S⟩ ⟨S⟩
    (tested f Nat.beq) (tested' f Nat.beq) (tested f fun a b => Nat.ble (Nat.succ a) b) (tested f Nat.ble) (tested f fun a b => Nat.ble (Nat.succ b) a) (tested f fun a b => Nat.ble b a) op

theorem wrap64 {n : Nat} (h : Nat.ble n 9223372036854775807 = true) : mkI .i64 (wrapF .i64 (.ofNat n)) = .int .i64 (.ofNat n) := by
  rw [mkI_eq, wrapF_eq, wrap_small]
  have := Nat.le_of_ble_eq_true h
  show n < 9223372036854775808
  omega

theorem capped_eq (f : KV) (S : N2) (n : Nat → Nat → Nat) (E : Nat → Nat → AHeap → Option AV) (hS : ∀ a b c t h, S a b c t h = obind (E a b h) fun r => f (some r) c t h)
    (hE : ∀ a b h, E a b h = some (mkI .i64 (wrapF .i64 (.ofNat (n a b))))) (a b : Nat) (c : Ctx) (t : TT AV) (h : AHeap) :
    (capped f S n).run a b c t h = obind (E a b h) fun r => f (some r) c t h := by
  show Bool.rec (motive := fun _ => N2) S _ (Nat.ble (n a b) 9223372036854775807) a b c t h = _
  cases hb : Nat.ble (n a b) 9223372036854775807 with
  | false => exact hS ..
  | true => rw [hE, wrap64 hb]; rfl

theorem tested_eq (f : KV) (p q : Nat → Nat → Bool) (hp : ∀ a b, p a b = q a b) (a b : Nat) (c : Ctx) (t : TT AV) (h : AHeap) :
    (tested f p).run a b c t h = f (some (.bool (q a b))) c t h := by
  show Bool.rec (motive := fun _ => KN) _ _ (p a b) c t h = _
  rw [← hp]; cases p a b <;> rfl
theorem tested'_eq (f : KV) (p q : Nat → Nat → Bool) (hp : ∀ a b, bnot (p a b) = q a b) (a b : Nat) (c : Ctx) (t : TT AV) (h : AHeap) :
    (tested' f p).run a b c t h = f (some (.bool (q a b))) c t h := by
  show Bool.rec (motive := fun _ => KN) _ _ (p a b) c t h = _
  rw [← hp]; cases p a b <;> rfl

theorem bnot_blt (a b : Nat) : Nat.ble a b = bnot (Nat.blt b a) := by
  cases h1 : Nat.ble a b with
  | true =>
    have := Nat.le_of_ble_eq_true h1
    cases h2 : Nat.blt b a with
    | false => rfl
    | true => have := bltT h2; omega
  | false =>
    cases h2 : Nat.blt b a with
    | true => rfl
    | false => have := bltF h2; rw [Nat.ble_eq_true_of_le this] at h1; cases h1

theorem numB_eq (op : BinOp) (ty : TypeId) (cst : Bool) (f : KV) (S : N2)
    (hS : ∀ a b c t h, S a b c t h = obind (slowBin P op ty cst (.int .i64 (.ofNat a)) (.int .i64 (.ofNat b)) h) fun r => f (some r) c t h) (a b : Nat) (c : Ctx) (t : TT AV) (h : AHeap) :
    (numB op f S).run a b c t h = obind (slowBin P op ty cst (.int .i64 (.ofNat a)) (.int .i64 (.ofNat b)) h) fun r => f (some r) c t h := by
  cases op
  · exact capped_eq f S Nat.add (fun a b h => slowBin P .add ty cst (.int .i64 (.ofNat a)) (.int .i64 (.ofNat b)) h) hS (fun a b h => rfl) a b c t h
  · show Bool.rec (motive := fun _ => N2) S _ (Nat.ble b a) a b c t h = _
    cases h1 : Nat.ble b a with
    | false => exact hS ..
    | true =>
      show Bool.rec (motive := fun _ => N2) S _ (Nat.ble (Nat.sub a b) 9223372036854775807) a b c t h = _
      cases h2 : Nat.ble (Nat.sub a b) 9223372036854775807 with
      | false => exact hS ..
      | true =>
        have hle := Nat.le_of_ble_eq_true h1
        have e : Int.sub (.ofNat a) (.ofNat b) = .ofNat (Nat.sub a b) := (Int.ofNat_sub hle).symm
        have : slowBin P .sub ty cst (.int .i64 (.ofNat a)) (.int .i64 (.ofNat b)) h = some (mkI .i64 (wrapF .i64 (Int.sub (.ofNat a) (.ofNat b)))) := rfl
        rw [this, e, wrap64 h2]; rfl
  · exact capped_eq f S Nat.mul (fun a b h => slowBin P .mul ty cst (.int .i64 (.ofNat a)) (.int .i64 (.ofNat b)) h) hS (fun a b h => rfl) a b c t h
  · show Bool.rec (motive := fun _ => N2) S _ (Nat.ble 1 b) a b c t h = _
    cases h1 : Nat.ble 1 b with
    | false => exact hS ..
    | true =>
      show Bool.rec (motive := fun _ => N2) S _ (Nat.ble (Nat.div a b) 9223372036854775807) a b c t h = _
      cases h2 : Nat.ble (Nat.div a b) 9223372036854775807 with
      | false => exact hS ..
      | true =>
        have hb := Nat.le_of_ble_eq_true h1
        have e0 : ieq (.ofNat b) 0 = false := by
          show Nat.beq b 0 = false
          cases b with
          | zero => omega
          | succ b => rfl
        have : slowBin P .quo ty cst (.int .i64 (.ofNat a)) (.int .i64 (.ofNat b)) h = bif' (ieq (.ofNat b) 0) none (some (mkI .i64 (wrapF .i64 (.ofNat (Nat.div a b))))) := rfl
        rw [this, e0, wrap64 h2]; rfl
  · show Bool.rec (motive := fun _ => N2) S _ (Nat.ble 1 b) a b c t h = _
    cases h1 : Nat.ble 1 b with
    | false => exact hS ..
    | true =>
      have hb := Nat.le_of_ble_eq_true h1
      have e0 : ieq (.ofNat b) 0 = false := by
        show Nat.beq b 0 = false
        cases b with
        | zero => omega
        | succ b => rfl
      have : slowBin P .rem ty cst (.int .i64 (.ofNat a)) (.int .i64 (.ofNat b)) h = bif' (ieq (.ofNat b) 0) none (some (mkI .i64 (.ofNat (Nat.mod a b)))) := rfl
      rw [this, e0, mkI_eq]; rfl
  · exact hS ..
  · exact hS ..
  · exact hS ..
  · exact hS ..
  · exact hS ..
  · exact hS ..
  · exact tested_eq f Nat.beq (fun a b => ieq (.ofNat a) (.ofNat b)) (fun a b => rfl) a b c t h
  · exact tested'_eq f Nat.beq (fun a b => bnot (ieq (.ofNat a) (.ofNat b))) (fun a b => rfl) a b c t h
  · exact tested_eq f (fun a b => Nat.ble (Nat.succ a) b) (fun a b => ilt (.ofNat a) (.ofNat b)) (fun a b => rfl) a b c t h
  · exact tested_eq f Nat.ble (fun a b => bnot (ilt (.ofNat b) (.ofNat a))) (fun a b => bnot_blt a b) a b c t h
  · exact tested_eq f (fun a b => Nat.ble (Nat.succ b) a) (fun a b => ilt (.ofNat b) (.ofNat a)) (fun a b => rfl) a b c t h
  · exact tested_eq f (fun a b => Nat.ble b a) (fun a b => bnot (ilt (.ofNat a) (.ofNat b))) (fun a b => bnot_blt b a) a b c t h

abbrev K2 := AV → AV → KN

/-- two numbers of the kind int, neither below nought; all else goes the slow way -/
def intK (S : K2) (F : N2) : IntKind → Int → IntKind → Int → KN := fun k a k' b c t h =>
  IntKind.rec (motive := fun _ => Int → IntKind → Int → KN) (fun a k' b => S (.int .i8 a) (.int k' b)) (fun a k' b => S (.int .i16 a) (.int k' b)) (fun a k' b => S (.int .i32 a) (.int k' b))
    (fun a k' b => IntKind.rec (motive := fun _ => Int → Int → KN) (fun a b => S (.int .i64 a) (.int .i8 b)) (fun a b => S (.int .i64 a) (.int .i16 b)) (fun a b => S (.int .i64 a) (.int .i32 b))
      (fun a b => Int.rec (motive := fun _ => Int → KN) (fun a b => Int.rec (motive := fun _ => Nat → KN) (fun b a => F a b) (fun b a => S (.int .i64 (.ofNat a)) (.int .i64 (.negSucc b))) b a) (fun a b => S (.int .i64 (.negSucc a)) (.int .i64 b)) a b)
      (fun a b => S (.int .i64 a) (.int .u8 b)) (fun a b => S (.int .i64 a) (.int .u16 b)) (fun a b => S (.int .i64 a) (.int .u32 b)) (fun a b => S (.int .i64 a) (.int .u64 b)) k' a b)
    (fun a k' b => S (.int .u8 a) (.int k' b)) (fun a k' b => S (.int .u16 a) (.int k' b)) (fun a k' b => S (.int .u32 a) (.int k' b)) (fun a k' b => S (.int .u64 a) (.int k' b)) k a k' b c t h

def binB (P : Program) (op : BinOp) (ty : TypeId) (cst : Bool) (f : KV) : C2 :=
  C2.rec (fun S => NB2.rec (fun F => CB.rec (fun kx => ⟨fun v u c t h => kx v u c t h⟩)
    (cInt (α := AV → KN) (fun v u => S v u) (fun k a u => CB.run (α := IntKind → Int → KN) (cInt (fun u k a => S (.int k a) u) (fun k' b k a => intK S F k a k' b)) u k a)))
    (numB op f fun a b => S (.int .i64 (.ofNat a)) (.int .i64 (.ofNat b)))) (slow2 (slowBin P op ty cst) f)

theorem intK_eq (S : K2) (F : N2) (E : AV → AV → AHeap → Option AV) (f : KV) (hS : ∀ v u c t h, S v u c t h = obind (E v u h) fun r => f (some r) c t h)
    (hF : ∀ a b c t h, F a b c t h = obind (E (.int .i64 (.ofNat a)) (.int .i64 (.ofNat b)) h) fun r => f (some r) c t h) (k k' : IntKind) (a b : Int) (c : Ctx) (t : TT AV) (h : AHeap) :
    intK S F k a k' b c t h = obind (E (.int k a) (.int k' b) h) fun r => f (some r) c t h := by
  cases k <;> first | exact hS .. | skip
  cases k' <;> first | exact hS .. | skip
  cases a <;> first | exact hS .. | skip
  cases b <;> first | exact hS .. | exact hF ..

theorem binB_eq (op : BinOp) (ty : TypeId) (cst : Bool) (f : KV) (v u : AV) (c : Ctx) (t : TT AV) (h : AHeap) :
    (binB P op ty cst f).run v u c t h = obind (slowBin P op ty cst v u h) fun r => f (some r) c t h := by
  have hS : ∀ v u c t h, (slow2 (slowBin P op ty cst) f).run v u c t h = obind (slowBin P op ty cst v u h) fun r => f (some r) c t h := fun v u c t h => slow2_eq ..
  have hF := numB_eq (P := P) op ty cst f (fun a b => (slow2 (slowBin P op ty cst) f).run (.int .i64 (.ofNat a)) (.int .i64 (.ofNat b))) (fun a b c t h => hS ..)
  have e : (binB P op ty cst f).run v u = (cInt (α := AV → KN) (fun v u => (slow2 (slowBin P op ty cst) f).run v u) (fun k a u => CB.run (α := IntKind → Int → KN) (cInt (fun u k a => (slow2 (slowBin P op ty cst) f).run (.int k a) u)
      (fun k' b k a => intK (slow2 (slowBin P op ty cst) f).run (numB op f fun a b => (slow2 (slowBin P op ty cst) f).run (.int .i64 (.ofNat a)) (.int .i64 (.ofNat b))).run k a k' b)) u k a)).run v u := by
    simp only [binB, c2_eta, cb_eta]
    try (cases numB op f (fun a b => (slow2 (slowBin P op ty cst) f).run (.int .i64 (.ofNat a)) (.int .i64 (.ofNat b))); rfl)
  rw [e]
  by_cases hv : ∃ k a, v = .int k a
  · obtain ⟨k, a, rfl⟩ := hv
    by_cases hu : ∃ k' b, u = .int k' b
    · obtain ⟨k', b, rfl⟩ := hu
      exact intK_eq _ _ (slowBin P op ty cst) f hS hF k k' a b c t h
    · refine Eq.trans ?_ (hS ..)
      cases u <;> first | rfl | exact absurd ⟨_, _, rfl⟩ hu
  · refine Eq.trans ?_ (hS ..)
    cases v <;> first | rfl | exact absurd ⟨_, _, rfl⟩ hv

theorem binOp_ok (op : BinOp) (ty ty' : TypeId) (x y : Operand) : QOk P (.binOp op ty x y ty') (fun kv => bin2 x y kv (binB P op ty (bif' (isConstO x) true (isConstO y)))) :=
  bin2_ok _ x y _ (slowBin P op ty (bif' (isConstO x) true (isConstO y))) (fun f v u c t h => binB_eq ..) (fun s h => by
    show (obind (aval (tmpsOf s) x) fun v => obind (aval (tmpsOf s) y) fun u => bif' (eqGuardA P ty _ v u) (stay h (binA P op ty v u h)) none) = _
    congr 1; funext v; congr 1; funext u
    unfold slowBin
    cases eqGuardA P ty (bif' (isConstO x) true (isConstO y)) v u with
    | false => rfl
    | true => exact stay2 _ _)

/-! x[i] of a slice or an array, its place -/

def ixK (S : K2) (F : Nat → Nat → Nat → Nat → KN) (mk : Nat → Nat → Nat → AV) : AV → Nat → Nat → Nat → KN :=
  (cInt (α := Nat → Nat → Nat → KN) (fun u b off len => S (mk b off len) u)
    (fun k n b off len => Int.rec (motive := fun _ => IntKind → Nat → Nat → Nat → KN) (fun n _ b off len => F n b off len) (fun n k b off len => S (mk b off len) (.int k (.negSucc n))) n k b off len)).run

def placeK (f : KV) (s : Nat) : Nat → Nat → Nat → Nat → KN := fun n b off len c t h =>
  Bool.rec (motive := fun _ => Nat → Nat → Nat → KN) (fun _ _ _ _ _ _ => none) (fun n b off => f (some (.ptr b (Nat.add off (Nat.mul n s))))) (Nat.ble (Nat.succ n) len) n b off c t h

/-- what an index looks into -/
inductive IxD where
  | arr (len s : Nat)
  | sl (s : Nat)
  | no

def ixOf (P : Program) (ty : TypeId) : IxD :=
  match P.underlying ty with
  | some (.array len elem) => match szOf P elem with
    | some s => .arr len s
    | none => .no
  | some (.slice elem) => match szOf P elem with
    | some s => .sl s
    | none => .no
  | _ => .no

/-- an index of the kind int, not below nought -/
def natK (F : Nat → Nat → Nat → Nat → KN) (S : K2) (mk : Nat → Nat → Nat → AV) : CB (Nat → Nat → Nat → KN) :=
  cInt (fun u b off len => S (mk b off len) u)
    (fun k n b off len => Int.rec (motive := fun _ => IntKind → Nat → Nat → Nat → KN) (fun n _ b off len => F n b off len) (fun n k b off len => S (mk b off len) (.int k (.negSucc n))) n k b off len)

def indexAddrB (P : Program) (ty : TypeId) (f : KV) : C2 :=
  C2.rec (fun S => IxD.rec
    (fun len s => CB.rec (fun ku => CB.rec (fun kv => ⟨fun v u c t h => kv v u c t h⟩) (cPtr (α := AV → KN) (fun v u => S v u) (fun b off u => ku u b off len)))
      (natK (placeK f s) S (fun b off _ => .ptr b off)))
    (fun s => CB.rec (fun ku => CB.rec (fun kv => ⟨fun v u c t h => kv v u c t h⟩) (cSlice (α := AV → KN) (fun v u => S v u) (fun b off len m u => ku u b off len)
      (fun b off len m u => ku u b off len))) (natK (placeK f s) (fun v u => S v u) (fun b off len => .slice b off len len)))
    ⟨S⟩ (ixOf P ty)) (slow2 (fun v u _ => indexAtA P ty v u) f)

theorem indexAddrB_eq (ty : TypeId) (f : KV) (v u : AV) (c : Ctx) (t : TT AV) (h : AHeap) :
    (indexAddrB P ty f).run v u c t h = obind (indexAtA P ty v u) fun r => f (some r) c t h := by
  have hS : ∀ v u c t h, (slow2 (fun v u _ => indexAtA P ty v u) f).run v u c t h = obind (indexAtA P ty v u) fun r => f (some r) c t h := fun v u c t h => slow2_eq ..
  have hp : ∀ (s n b off len : Nat), placeK f s n b off len c t h = obind (bif' (Nat.blt n len) (forceN (Nat.add off (Nat.mul n s)) fun o => some (AV.ptr b o)) none) fun r => f (some r) c t h := by
    intro s n b off len
    show Bool.rec (motive := fun _ => Nat → Nat → Nat → KN) _ _ (Nat.blt n len) n b off c t h = _
    rw [forceN_eq]
    cases Nat.blt n len <;> rfl
  simp only [indexAddrB, c2_eta, cb_eta]
  unfold ixOf
  cases hd : P.underlying ty with
  | none => exact hS ..
  | some d =>
    cases d <;> first | exact hS .. | skip
    · rename_i elem
      cases hz : szOf P elem with
      | none => simp only [hz]; exact hS ..
      | some s =>
        simp only [hz]
        have key : ∀ (b off len m : Nat) (k : IntKind) (n : Nat), (indexAtA P ty (.slice b off len m) (.int k (.ofNat n)) = bif' (Nat.blt n len) (forceN (Nat.add off (Nat.mul n s)) fun o => some (AV.ptr b o)) none) ∧
            (indexAtA P ty (.sliceu b off len m) (.int k (.ofNat n)) = bif' (Nat.blt n len) (forceN (Nat.add off (Nat.mul n s)) fun o => some (AV.ptr b o)) none) := by
          intro b off len m k n
          constructor <;> (show obind (P.underlying ty) _ = _; rw [hd]; show bif' (Nat.blt n len) (obind (szOf P elem) _) none = _; rw [hz]; rfl)
        have bad : ∀ (b off len m : Nat) (u : AV), (∀ k n, u ≠ .int k (.ofNat n)) → indexAtA P ty (.slice b off len m) u = none ∧ indexAtA P ty (.sliceu b off len m) u = none := by
          intro b off len m u hu
          cases u <;> first | exact ⟨rfl, rfl⟩ | skip
          rename_i k n
          cases n with
          | ofNat n => exact absurd rfl (hu k n)
          | negSucc n => exact ⟨rfl, rfl⟩
        cases v <;> first | exact hS .. | skip
        all_goals
          rename_i b off len m
          by_cases hu : ∃ k n, u = .int k (.ofNat n)
          · obtain ⟨k, n, rfl⟩ := hu
            show placeK f s n b off len c t h = _
            rw [hp]
            first | rw [(key b off len m k n).1] | rw [(key b off len m k n).2]
          · have e1 := (bad b off len m u (fun k n e => hu ⟨k, n, e⟩))
            have e2 := (bad b off len len u (fun k n e => hu ⟨k, n, e⟩)).1
            first | rw [e1.1] | rw [e1.2]
            have : ∀ c t h, (slow2 (fun v u _ => indexAtA P ty v u) f).run (.slice b off len len) u c t h = none := fun c t h => by rw [hS, e2]; rfl
            refine Eq.trans ?_ (this c t h)
            cases u <;> first | rfl | skip
            rename_i k n
            cases n with
            | ofNat n => exact absurd ⟨k, n, rfl⟩ hu
            | negSucc n => rfl
    · rename_i len elem
      cases hz : szOf P elem with
      | none => simp only [hz]; exact hS ..
      | some s =>
        simp only [hz]
        cases v <;> first | exact hS .. | skip
        rename_i b off
        by_cases hu : ∃ k n, u = .int k (.ofNat n)
        case neg =>
          refine Eq.trans ?_ (hS (.ptr b off) u c t h)
          cases u <;> first | rfl | skip
          rename_i k n
          cases n with
          | ofNat n => exact absurd ⟨k, n, rfl⟩ hu
          | negSucc n => rfl
        case pos =>
          obtain ⟨k, n, rfl⟩ := hu
          show placeK f s n b off len c t h = _
          rw [hp]
          have : indexAtA P ty (.ptr b off) (.int k (.ofNat n)) = bif' (Nat.blt n len) (forceN (Nat.add off (Nat.mul n s)) fun o => some (AV.ptr b o)) none := by
            show obind (P.underlying ty) _ = _; rw [hd]; show bif' (Nat.blt n len) (obind (szOf P elem) _) none = _; rw [hz]; rfl
          rw [this]

theorem indexAddr_ok (ty : TypeId) (x y : Operand) : QOk P (.indexAddr ty x y) (fun kv => bin2 x y kv (indexAddrB P ty)) :=
  bin2_ok _ x y _ (fun v u _ => indexAtA P ty v u) (fun f v u c t h => indexAddrB_eq ..) (fun s h => by
    show (obind (aval (tmpsOf s) x) fun v => obind (aval (tmpsOf s) y) fun u => stay h (indexAtA P ty v u)) = _
    exact congrArg (obind _) (funext fun v => congrArg (obind _) (funext fun u => stay2 _ _)))

end
end Go.Ab
