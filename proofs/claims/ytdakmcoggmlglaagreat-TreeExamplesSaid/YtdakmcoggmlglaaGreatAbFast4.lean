/- The evaluator in boxes: what changes memory; calls; an operation; a region. -/
import Derived.Test.YtdakmcoggmlglaaGreatAbFast3
set_option linter.all false
set_option linter.unusedVariables false
set_option linter.unusedSimpArgs false
namespace Go.Ab
open Go.RowKit
noncomputable section

variable {P : Program}

/-! memory that is written out -/

def forceH {β : Type} (h : AHeap) (k : AHeap → β) : β :=
  AHeap.rec (motive := fun _ => (AHeap → β) → β) (fun nx g k => HH.rec (motive := fun _ => Nat → (AHeap → β) → β) (fun lo hi nx k => forceN nx fun nx => k ⟨nx, ⟨lo, hi⟩⟩) g nx k) h k
theorem forceH_eq {β : Type} (h : AHeap) (k : AHeap → β) : forceH h k = k h := by
  obtain ⟨nx, lo, hi⟩ := h
  exact forceN_eq nx fun nx => k ⟨nx, ⟨lo, hi⟩⟩

def putH {β : Type} (h : AHeap) (b : Nat) (o : AObj) (k : AHeap → β) : β :=
  AHeap.rec (motive := fun _ => Nat → AObj → (AHeap → β) → β) (fun nx g b o k => HH.rec (motive := fun _ => Nat → (AHeap → β) → β) (fun lo hi nx k => k ⟨nx, ⟨lo, hi⟩⟩) ((hputB b).run (some o) g) nx k) h b o k
theorem hput_run (g : HH AObj) (b : Nat) (o : Option AObj) : (hputB b).run o g = g.put b o := by
  show _ = HPut.go (hputB b) o g
  cases hputB (α := AObj) b; rfl
theorem putH_eq {β : Type} (h : AHeap) (b : Nat) (o : AObj) (k : AHeap → β) : putH h b o k = k (h.put b (some o)) := by
  obtain ⟨nx, g⟩ := h
  show HH.rec (motive := fun _ => Nat → (AHeap → β) → β) (fun lo hi nx k => k ⟨nx, ⟨lo, hi⟩⟩) ((hputB b).run (some o) g) nx k = k ⟨nx, g.put b (some o)⟩
  rw [hput_run]

def newH {β : Type} (h : AHeap) (o : AObj) (k : Nat → AHeap → β) : β :=
  AHeap.rec (motive := fun _ => AObj → (Nat → AHeap → β) → β) (fun nx g o k => forceN nx fun b => HH.rec (motive := fun _ => Nat → (Nat → AHeap → β) → β) (fun lo hi b k => k b ⟨Nat.succ b, ⟨lo, hi⟩⟩) ((hputB b).run (some o) g) b k) h o k
theorem newH_eq {β : Type} (h : AHeap) (o : AObj) (k : Nat → AHeap → β) : newH h o k = k h.next (h.new o) := by
  obtain ⟨nx, g⟩ := h
  show forceN nx (fun b => HH.rec (motive := fun _ => Nat → (Nat → AHeap → β) → β) (fun lo hi b k => k b ⟨Nat.succ b, ⟨lo, hi⟩⟩) ((hputB b).run (some o) g) b k) = _
  rw [forceN_eq, hput_run]
  rfl

def forceT {β : Type} (t : TT AV) (k : TT AV → β) : β := TT.rec (motive := fun _ => (TT AV → β) → β) (fun lo hi k => k ⟨lo, hi⟩) t k
theorem forceT_eq {β : Type} (t : TT AV) (k : TT AV → β) : forceT t k = k t := by cases t; rfl

/-! operations that are no calls -/

def simple : AN → Option (Option AV)
  | .val v => some v
  | .skip => some (some (.tup []))
  | _ => none

def sv (P : Program) (o : Op) (size : Nat) (c : Ctx) (t : TT AV) (h : AHeap) : Option (Option AV × AHeap) :=
  obind (execT P o (stOf size c t) h) fun x => obind (simple x.1) fun v => some (v, x.2)

def SOk (P : Program) (o : Op) (b : VB → NB) : Prop :=
  (∀ (kv : VB) size c t h, (b kv).run c t h = obind (sv P o size c t h) fun p => kv.run p.1 c t p.2) ∧
  (∀ size c t h x, execT P o (stOf size c t) h = some x → ∃ v, simple x.1 = some v)

theorem QOk.sOk {o : Op} {b : VB → NB} (q : QOk P o b) : SOk P o b := by
  refine ⟨fun kv size c t h => ?_, fun size c t h x hx => ?_⟩
  · rw [q.1, sv, q.2]
    cases qv P o size c t h <;> rfl
  · rw [q.2] at hx
    obtain ⟨v, _, h1⟩ := obind_eq hx
    cases h1
    exact ⟨v, rfl⟩

theorem finish_simple {J : JobF} {s : ASt} {d : Option Tmp} {x : AN} {v : Option AV} (h : AHeap) (hv : simple x = some v) : finish J s d x h = keepS s d v h := by
  cases x <;> first | (cases hv; done) | (cases hv; rfl)

theorem opGo_simple {o : Oper} {b : VB → NB} (q : SOk P o.op b) (J : JobF) (size : Nat) (c : Ctx) (t : TT AV) (h : AHeap) :
    opGo P J o (stOf size c t) h = obind (sv P o.op size c t h) fun p => keepS (stOf size c t) o.dst p.1 p.2 := by
  show obind (execT P o.op (stOf size c t) h) _ = obind (obind (execT P o.op (stOf size c t) h) _) _
  cases hx : execT P o.op (stOf size c t) h with
  | none => rfl
  | some x =>
    obtain ⟨v, hv⟩ := q.2 size c t h x hx
    show finish J _ _ x.1 x.2 = obind (obind (simple x.1) _) _
    rw [hv, finish_simple _ hv]; rfl

/-! stores -/

def storeSlow (P : Program) (ty : TypeId) (f : KV) : K2 := fun v u c t h => Option.rec (motive := fun _ => KN) (fun _ _ _ => none) (fun h' c t _ => forceH h' fun h' => f (some (.tup [])) c t h') (storeA P ty v u h) c t h

/-- one cell -/
def store1 (S : K2) (f : KV) : AV → Nat → Nat → KN := fun u b off c t h =>
  Option.rec (motive := fun _ => AV → Nat → Nat → KN) (fun u b off => S (.ptr b off) u)
    (fun o => AObj.rec (motive := fun _ => AV → Nat → Nat → KN)
      (fun r opn plain u b off c t h => Option.rec (motive := fun _ => Bool → Bool → AV → Nat → Nat → KN) (fun _ _ u b off => S (.ptr b off) u)
        (fun r' opn plain _ b _ c t h => putH h b (.cells r' opn plain) fun h' => f (some (.tup [])) c t h') (rput1 r u off) opn plain u b off c t h)
      (fun _ _ u b off => S (.ptr b off) u) (fun _ _ _ _ _ _ _ _ u b off => S (.ptr b off) u) (fun _ u b off => S (.ptr b off) u) o)
    ((hgetB b).run h.t) u b off c t h

/-- a byte -/
def storeb (S : K2) (f : KV) : Nat → Nat → Nat → KN := fun d b off c t h =>
  Option.rec (motive := fun _ => Nat → Nat → Nat → KN) (fun d b off => S (.ptr b off) (.int .u8 (.ofNat d)))
    (fun o => AObj.rec (motive := fun _ => Nat → Nat → Nat → KN)
      (fun r opn plain d b off c t h => Option.rec (motive := fun _ => Bool → Bool → Nat → Nat → Nat → KN) (fun _ _ d b off => S (.ptr b off) (.int .u8 (.ofNat d)))
        (fun r' opn plain _ b _ c t h => putH h b (.cells r' opn plain) fun h' => f (some (.tup [])) c t h') (rputb r d off) opn plain d b off c t h)
      (fun _ _ d b off => S (.ptr b off) (.int .u8 (.ofNat d))) (fun _ _ _ _ _ _ _ _ d b off => S (.ptr b off) (.int .u8 (.ofNat d))) (fun _ d b off => S (.ptr b off) (.int .u8 (.ofNat d))) o)
    ((hgetB b).run h.t) d b off c t h

structure StB where
  run : AV → Nat → Nat → KN

/-- what is stored is no byte, no aggregate, no tuple -/
def storeU (S : K2) (f : KV) : StB :=
  ⟨fun u => AV.rec (motive_1 := fun _ => Nat → Nat → KN) (motive_2 := fun _ => Unit) (motive_3 := fun _ => Unit) (motive_4 := fun _ => Unit)
    (fun b => store1 S f (.bool b))
    (fun k n => IntKind.rec (motive := fun _ => Int → Nat → Nat → KN) (fun n => store1 S f (.int .i8 n)) (fun n => store1 S f (.int .i16 n)) (fun n => store1 S f (.int .i32 n)) (fun n => store1 S f (.int .i64 n))
      (fun n => Int.rec (motive := fun _ => Nat → Nat → KN) (fun d b off => Bool.rec (motive := fun _ => Nat → Nat → Nat → KN) (fun d b off => S (.ptr b off) (.int .u8 (.ofNat d))) (storeb S f) (Nat.ble d 255) d b off)
        (fun d b off => S (.ptr b off) (.int .u8 (.negSucc d))) n)
      (fun n => store1 S f (.int .u16 n)) (fun n => store1 S f (.int .u32 n)) (fun n => store1 S f (.int .u64 n)) k n)
    (fun n N b off => S (.ptr b off) (.str n N)) (store1 S f .nilp) (fun b o => store1 S f (.ptr b o)) (store1 S f .nils) (fun b o l m => store1 S f (.slice b o l m)) (fun b o l m => store1 S f (.sliceu b o l m))
    (store1 S f .nilm) (fun b => store1 S f (.map b)) (fun g a q _ _ b off => S (.ptr b off) (.fn g a q)) (fun g a q _ _ b off => S (.ptr b off) (.meth g a q)) (fun y b off => S (.ptr b off) (.yld y)) (store1 S f .nilf)
    (fun ty v _ => store1 S f (.iface ty v)) (store1 S f .nili) (fun r _ b off => S (.ptr b off) (.agg r)) (fun vs _ b off => S (.ptr b off) (.tup vs)) (fun i b off => S (.ptr b off) (.opq i))
    (fun _ _ => ()) (fun _ _ => ()) () (fun _ _ _ _ => ()) () (fun _ _ _ _ => ()) u⟩

def storeC (P : Program) (ty : TypeId) (f : KV) : C2 :=
  Bool.rec ⟨storeSlow P ty f⟩ (StB.rec (fun w => CB.rec (fun kv => ⟨fun v u c t h => kv v u c t h⟩) (cPtr (α := AV → KN) (fun v u => storeSlow P ty f v u) (fun b off u => w u b off)))
    (storeU (storeSlow P ty f) f)) (Option.rec false (fun n => Nat.beq n 1) (szOf P ty))

def storeF (P : Program) (ty : TypeId) (a x : Operand) (kv : VB) : NB :=
  OB.rec (fun ga => OB.rec (fun gx => VB.rec (fun f => C2.rec (fun k => ⟨fun c t h => Option.rec (motive := fun _ => KN) (fun _ _ _ => none)
    (fun v c t h => Option.rec (motive := fun _ => AV → KN) (fun _ _ _ _ => none) (fun u v => k v u) (gx t) v c t h) (ga t) c t h⟩) (storeC P ty f)) kv) (opnd x)) (opnd a)

theorem storeSlow_eq (ty : TypeId) (f : KV) (v u : AV) (c : Ctx) (t : TT AV) (h : AHeap) : storeSlow P ty f v u c t h = obind (storeA P ty v u h) fun h' => f (some (.tup [])) c t h' := by
  show Option.rec (motive := fun _ => KN) _ _ (storeA P ty v u h) c t h = _
  cases storeA P ty v u h with
  | none => rfl
  | some h' => exact forceH_eq h' _

theorem store1_eq {ty : TypeId} {f : KV} (hz : szOf P ty = some 1) {u : AV} (hu : vrow u = some [.one u]) (b off : Nat) (c : Ctx) (t : TT AV) (h : AHeap) :
    store1 (storeSlow P ty f) f u b off c t h = obind (storeA P ty (.ptr b off) u h) fun h' => f (some (.tup [])) c t h' := by
  have hs := storeSlow_eq (P := P) ty f (.ptr b off) u c t h
  have hw : storeA P ty (.ptr b off) u h = writeA h b off [.one u] := by
    show obind (vrow u) _ = _
    rw [hu]; show obind (szOf P ty) _ = _; rw [hz]; rfl
  show Option.rec (motive := fun _ => AV → Nat → Nat → KN) _ _ ((hgetB b).run h.t) u b off c t h = _
  rw [hget_at]
  cases ho : h.at b with
  | none => exact hs
  | some o =>
    cases o with
    | cells r opn plain =>
      show Option.rec (motive := fun _ => Bool → Bool → AV → Nat → Nat → KN) _ _ (rput1 r u off) opn plain u b off c t h = _
      cases hr : rput1 r u off with
      | none => exact hs
      | some r' =>
        show putH h b (.cells r' opn plain) _ = _
        rw [putH_eq, hw]
        have : writeA h b off [.one u] = some (h.put b (some (.cells r' opn plain))) := by
          show obind (h.at b) _ = _
          rw [ho]
          show obind (orE (rput1 r u off) _) _ = _
          rw [hr]; rfl
        rw [this]; rfl
    | map _ _ => exact hs
    | loop _ _ _ _ _ _ _ _ => exact hs
    | dfr _ => exact hs

theorem storeb_eq {ty : TypeId} {f : KV} (hz : szOf P ty = some 1) {d : Nat} (hd : d ≤ 255) (b off : Nat) (c : Ctx) (t : TT AV) (h : AHeap) :
    storeb (storeSlow P ty f) f d b off c t h = obind (storeA P ty (.ptr b off) (.int .u8 (.ofNat d)) h) fun h' => f (some (.tup [])) c t h' := by
  have hs := storeSlow_eq (P := P) ty f (.ptr b off) (.int .u8 (.ofNat d)) c t h
  have hw : storeA P ty (.ptr b off) (.int .u8 (.ofNat d)) h = writeA h b off [.bytes 1 d] := by
    show obind (bif' (Nat.blt d 256) (some [Seg.bytes 1 d]) none) _ = _
    have : Nat.blt d 256 = true := by rw [Nat.blt_eq]; omega
    rw [this]; show obind (szOf P ty) _ = _; rw [hz]; rfl
  show Option.rec (motive := fun _ => Nat → Nat → Nat → KN) _ _ ((hgetB b).run h.t) d b off c t h = _
  rw [hget_at]
  cases ho : h.at b with
  | none => exact hs
  | some o =>
    cases o with
    | cells r opn plain =>
      show Option.rec (motive := fun _ => Bool → Bool → Nat → Nat → Nat → KN) _ _ (rputb r d off) opn plain d b off c t h = _
      cases hr : rputb r d off with
      | none => exact hs
      | some r' =>
        show putH h b (.cells r' opn plain) _ = _
        rw [putH_eq, hw]
        have : writeA h b off [.bytes 1 d] = some (h.put b (some (.cells r' opn plain))) := by
          show obind (h.at b) _ = _
          rw [ho]
          show obind (orE (rputb r d off) _) _ = _
          rw [hr]; rfl
        rw [this]; rfl
    | map _ _ => exact hs
    | loop _ _ _ _ _ _ _ _ => exact hs
    | dfr _ => exact hs

theorem storeC_eq (ty : TypeId) (f : KV) (v u : AV) (c : Ctx) (t : TT AV) (h : AHeap) : (storeC P ty f).run v u c t h = obind (storeA P ty v u h) fun h' => f (some (.tup [])) c t h' := by
  have hs := fun v u => storeSlow_eq (P := P) ty f v u c t h
  unfold storeC
  cases hz : szOf P ty with
  | none => exact hs v u
  | some n =>
    show C2.run (Bool.rec _ _ (Nat.beq n 1)) v u c t h = _
    cases hn : Nat.beq n 1 with
    | false => exact hs v u
    | true =>
      have : n = 1 := beqT hn
      subst this
      have e : (Bool.rec (motive := fun _ => C2) ⟨storeSlow P ty f⟩ (StB.rec (fun w => CB.rec (fun kv => ⟨fun v u c t h => kv v u c t h⟩) (cPtr (α := AV → KN) (fun v u => storeSlow P ty f v u) (fun b off u => w u b off)))
          (storeU (storeSlow P ty f) f)) true).run v u = (cPtr (α := AV → KN) (fun v u => storeSlow P ty f v u) (fun b off u => (storeU (storeSlow P ty f) f).run u b off)).run v u := by
        simp only [cb_eta]
      rw [e]
      by_cases hp : ∃ b off, v = .ptr b off
      case neg =>
        refine Eq.trans ?_ (hs v u)
        cases v <;> first | rfl | exact absurd ⟨_, _, rfl⟩ hp
      obtain ⟨b, off, rfl⟩ := hp
      show (storeU (storeSlow P ty f) f).run u b off c t h = _
      cases u
      case str n N => exact hs (.ptr b off) (.str n N)
      case fn g a q => exact hs (.ptr b off) (.fn g a q)
      case meth g a q => exact hs (.ptr b off) (.meth g a q)
      case yld y => exact hs (.ptr b off) (.yld y)
      case agg r => exact hs (.ptr b off) (.agg r)
      case tup vs => exact hs (.ptr b off) (.tup vs)
      case opq i => exact hs (.ptr b off) (.opq i)
      case int k n =>
        cases k <;> first | exact store1_eq hz rfl b off c t h | skip
        cases n with
        | negSucc d => exact hs (.ptr b off) (.int .u8 (.negSucc d))
        | ofNat d =>
          show Bool.rec (motive := fun _ => Nat → Nat → Nat → KN) (fun d b off => storeSlow P ty f (.ptr b off) (.int .u8 (.ofNat d))) (storeb (storeSlow P ty f) f) (Nat.ble d 255) d b off c t h = _
          cases hd : Nat.ble d 255 with
          | false => exact hs (.ptr b off) (.int .u8 (.ofNat d))
          | true => exact storeb_eq hz (Nat.le_of_ble_eq_true hd) b off c t h
      all_goals exact store1_eq hz rfl b off c t h

theorem store_ok (ty : TypeId) (a x : Operand) : SOk P (.store ty a x) (storeF P ty a x) := by
  have hx : ∀ s h, execT P (.store ty a x) s h = obind (aval (tmpsOf s) a) fun v => obind (aval (tmpsOf s) x) fun u => gone (storeA P ty v u h) := fun s h => rfl
  refine ⟨fun kv size c t h => ?_, fun size c t h y hy => ?_⟩
  · rw [sv, hx]
    simp only [storeF, ob_eta, vb_eta, c2_eta, opnd_eq]
    show _ = obind (obind (obind (aval t a) _) _) _
    cases aval t a with
    | none => rfl
    | some v =>
      show (Option.rec (motive := fun _ => AV → KN) (fun _ _ _ _ => none) (fun u v => (storeC P ty kv.run).run v u) (aval t x) v c t h) = obind (obind (obind (aval t x) _) _) _
      cases aval t x with
      | none => rfl
      | some u =>
        show (storeC P ty kv.run).run v u c t h = obind (obind (gone (storeA P ty v u h)) _) _
        rw [storeC_eq]
        cases storeA P ty v u h <;> rfl
  · rw [hx] at hy
    obtain ⟨v, _, h1⟩ := obind_eq hy
    obtain ⟨u, _, h2⟩ := obind_eq h1
    obtain ⟨h', _, h3⟩ := obind_eq h2
    cases h3
    exact ⟨_, rfl⟩

/-! new blocks -/

def allocF (P : Program) (e : TypeId) (kv : VB) : NB :=
  VB.rec (fun f => Option.rec ⟨fun _ _ _ => none⟩ (fun r => ⟨fun c t h => newH h (.cells r false true) fun b h' => f (some (.ptr b 0)) c t h'⟩) (obind (zeroOf P e) vrow)) kv

theorem boxA_new (v : AV) (h : AHeap) : boxA v h = obind (vrow v) fun r => some (.ptr h.next 0, h.new (.cells r false true)) := by
  show obind (vrow v) _ = _
  congr 1; funext r; exact forceN_eq ..

theorem alloc_ok (e : TypeId) : SOk P (.alloc e) (allocF P e) := by
  have hx : ∀ s h, execT P (.alloc e) s h = both (obind (zeroOf P e) fun v => boxA v h) := fun s h => rfl
  refine ⟨fun kv size c t h => ?_, fun size c t h y hy => ?_⟩
  · rw [sv, hx]
    simp only [allocF, vb_eta]
    cases zeroOf P e with
    | none => rfl
    | some v =>
      show NB.run (Option.rec (motive := fun _ => NB) _ _ (vrow v)) c t h = obind (obind (both (boxA v h)) _) _
      rw [boxA_new]
      cases vrow v with
      | none => rfl
      | some r => show newH h (.cells r false true) (fun b h' => kv.run (some (.ptr b 0)) c t h') = _; rw [newH_eq]; rfl
  · rw [hx] at hy
    obtain ⟨v, _, h1⟩ := obind_eq hy
    cases h1
    exact ⟨_, rfl⟩

def boxF (x : Operand) (kv : VB) : NB :=
  OB.rec (fun g => VB.rec (fun f => ⟨fun c t h => Option.rec (motive := fun _ => KN) (fun _ _ _ => none)
    (fun v c t h => Option.rec (motive := fun _ => KN) (fun _ _ _ => none) (fun r c t h => newH h (.cells r false true) fun b h' => f (some (.ptr b 0)) c t h') (vrow v) c t h) (g t) c t h⟩) kv) (opnd x)

theorem box_ok (e : TypeId) (x : Operand) : SOk P (.box e x) (boxF x) := by
  have hx : ∀ s h, execT P (.box e x) s h = obind (aval (tmpsOf s) x) fun v => both (boxA v h) := fun s h => rfl
  refine ⟨fun kv size c t h => ?_, fun size c t h y hy => ?_⟩
  · rw [sv, hx]
    simp only [boxF, ob_eta, vb_eta, opnd_eq]
    show _ = obind (obind (obind (aval t x) _) _) _
    cases aval t x with
    | none => rfl
    | some v =>
      show Option.rec (motive := fun _ => KN) _ _ (vrow v) c t h = obind (obind (both (boxA v h)) _) _
      rw [boxA_new]
      cases vrow v with
      | none => rfl
      | some r => show newH h (.cells r false true) (fun b h' => kv.run (some (.ptr b 0)) c t h') = _; rw [newH_eq]; rfl
  · rw [hx] at hy
    obtain ⟨v, _, h1⟩ := obind_eq hy
    obtain ⟨p, _, h2⟩ := obind_eq h1
    cases h2
    exact ⟨_, rfl⟩

end
end Go.Ab
