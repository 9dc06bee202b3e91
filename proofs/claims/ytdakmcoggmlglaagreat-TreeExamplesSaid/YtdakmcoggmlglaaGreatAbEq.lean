/- '==', '+' on strings, conversions, unary operations. -/
import Derived.Test.YtdakmcoggmlglaaGreatAbMap2
set_option linter.all false
namespace Go.Ab
open Go.RowKit
noncomputable section

variable {P : Program} {env : Nat → Value} {W : Base} {w : World} {ι : Inj} {h h' : AHeap}

/-- is a value none that has arithmetic of its own? -/
def noNum : Value → Bool
  | .int _ _ => false
  | .string _ => false
  | .float _ _ => false
  | .complex _ _ _ => false
  | _ => true

theorem binOp_eql {t : TypeId} {x : Value} (y : Value) (hx : noNum x = true) : binOp .eql t x y = (do pure (.bool (← Op.equal t x y))) := by
  cases x <;> first | (cases hx; done) | (cases y <;> rfl)

theorem binOp_neq {t : TypeId} {x : Value} (y : Value) (hx : noNum x = true) : binOp .neq t x y = (do pure (.bool (!(← Op.equal t x y)))) := by
  cases x <;> first | (cases hx; done) | (cases y <;> rfl)

def isPlain (h : AHeap) (b : Nat) : Bool :=
  match h.at b with
  | some (.cells _ _ p) => p
  | _ => false

theorem isPlain_ok {b : Nat} (hp : isPlain h b = true) : ∃ r opn, h.at b = some (.cells r opn true) := by
  unfold isPlain at hp
  split at hp
  · rename_i r opn p e; subst hp; exact ⟨r, opn, e⟩
  · cases hp

theorem sameAddr_false (hr : HR env W ι h w) {b b' c c' s s' off off' : Nat} (hc : ι b = some (c, s)) (hc' : ι b' = some (c', s')) (hne : b ≠ b') (hp : isPlain h b = true) (hp' : isPlain h b' = true) :
    (sameAddr ⟨c, off, none⟩ ⟨c', off', none⟩).run P w = .ok false w := by
  obtain ⟨r, opn, ho⟩ := isPlain_ok hp
  obtain ⟨r', opn', ho'⟩ := isPlain_ok hp'
  obtain ⟨cs, e, fz, xs, tl, rfl, a2, _, _, _, a6⟩ := hr.cells ho hc
  obtain ⟨cs', e', fz', xs', tl', rfl, b2, _, _, _, b6⟩ := hr.cells ho' hc'
  have a1 := hc
  have b1 := hc'
  have hcc : c ≠ c' := fun e => by subst e; exact hne (hr.inj _ _ _ _ _ _ _ ho ho' a1 b1)
  have hf : fz = (0, 0) := by rcases a6 with h | ⟨h, _⟩; exact h; cases h
  have hf' : fz' = (0, 0) := by rcases b6 with h | ⟨h, _⟩; exact h; cases h
  subst hf; subst hf'
  have hfr : ∀ o, w.frozen? ⟨c, o, none⟩ = false := fun o => by simp [World.frozen?, a2]
  have hfr' : ∀ o, w.frozen? ⟨c', o, none⟩ = false := fun o => by simp [World.frozen?, b2]
  simp [sameAddr, hcc, hfr, hfr', noView, viewAt, World.shape?, a2, b2, mayBeOne, stringish]

def eqA (P : Program) (t : TypeId) (x y : AV) (h : AHeap) : Option Bool :=
  obind (P.underlying t) fun d => match d with
  | .pointer elem => match x, y with
    | .nilp, .nilp => some true
    | .nilp, .ptr _ _ => some false
    | .ptr _ _, .nilp => some false
    | .ptr b o, .ptr b' o' => obind (szOf P elem) fun n => bif' (Nat.beq n 0) none
        (bif' (Nat.beq b b') (some (Nat.beq o o')) (bif' (isPlain h b) (bif' (isPlain h b') (some false) none) none))
    | _, _ => none
  | .slice _ => match x, y with
    | .nils, .nils => some true
    | .nils, .slice _ _ _ _ => some false
    | .nils, .sliceu _ _ _ _ => some false
    | .slice _ _ _ _, .nils => some false
    | .sliceu _ _ _ _, .nils => some false
    | _, _ => none
  | .map _ _ => match x, y with
    | .nilm, .nilm => some true
    | .nilm, .map _ => some false
    | .map _, .nilm => some false
    | _, _ => none
  | .func _ _ _ => match x, y with
    | .nilf, .nilf => some true
    | .nilf, .fn _ _ _ => some false
    | .fn _ _ _, .nilf => some false
    | .nilf, .meth _ _ _ => some false
    | .meth _ _ _, .nilf => some false
    | _, _ => none
  | .interface _ => match x, y with
    | .nili, .nili => some true
    | .nili, .iface _ _ => some false
    | .iface _ _, .nili => some false
    | _, _ => none
  | _ => eqT P 40 t x y

theorem equal_of {t : TypeId} {x y : Value} {b : Bool} (hh : ∀ n, (Op.equalIn (n + 1) t x y).run P w = .ok b w) : (Op.equal t x y).run P w = .ok b w := hh 9999

theorem eqA_ok (hr : HR env W ι h w) {t : TypeId} {x y : AV} {b : Bool} {xv yv : Value} (hx : VR env ι x xv) (hy : VR env ι y yv) (he : eqA P t x y h = some b) : (Op.equal t xv yv).run P w = .ok b w := by
  obtain ⟨d, hd, h1⟩ := obind_eq he
  have key : eqT P 40 t x y = some b → (Op.equal t xv yv).run P w = .ok b w := fun hh => eqT_ok (d := 10000) (by omega) hx hy hh w
  cases d with
  | pointer elem =>
    cases hx <;> first | (cases h1; done) | skip
    · cases hy <;> first | (cases h1; done) | skip
      · cases h1; exact equal_of fun n => by simp only [Op.equalIn, Sem.run_bind, run_underlying hd, Result.andThen_ok, Sem.run_pure]; rfl
      · cases h1; exact equal_of fun n => by simp only [Op.equalIn, Sem.run_bind, run_underlying hd, Result.andThen_ok, Sem.run_pure]; rfl
    · rename_i b1 o1 c s hc
      cases hy <;> first | (cases h1; done) | skip
      · cases h1; exact equal_of fun n => by simp only [Op.equalIn, Sem.run_bind, run_underlying hd, Result.andThen_ok, Sem.run_pure]
      · rename_i b2 o2 c' s' hc'
        obtain ⟨n, hn, h2⟩ := obind_eq h1
        rcases bif'_some h2 with ⟨_, h3⟩ | ⟨hn0, h3⟩
        case inl => cases h3
        have hn0' : n ≠ 0 := beqF hn0
        have hsa : (sameAddr ⟨c, o1, none⟩ ⟨c', o2, none⟩).run P w = .ok b w := by
          rcases bif'_some h3 with ⟨hb, h4⟩ | ⟨hb, h4⟩
          · have := beqT hb
            subst this
            rw [hc] at hc'; cases hc'
            cases h4
            have : ((⟨c, o1, none⟩ : Addr) == ⟨c, o2, none⟩) = Nat.beq o1 o2 := by
              rw [Bool.eq_iff_iff, beq_iff_eq, beq_iff']
              exact ⟨fun h => by cases h; rfl, fun h => by rw [h]⟩
            simp [sameAddr, this]
          · rcases bif'_some h4 with ⟨hp, h5⟩ | ⟨_, h5⟩
            case inr => cases h5
            rcases bif'_some h5 with ⟨hp', h6⟩ | ⟨_, h6⟩
            case inr => cases h6
            cases h6
            exact sameAddr_false hr hc hc' (beqF hb) hp hp'
        exact equal_of fun m => by
          simp only [Op.equalIn, Sem.run_bind, run_underlying hd, Result.andThen_ok, run_sizeOf hn]
          rw [if_pos hn0']; exact hsa
  | slice e =>
    cases hx <;> first | (cases h1; done) | skip
    all_goals
      cases hy <;> first | (cases h1; done) | skip
    all_goals
      cases h1; exact equal_of fun n => by simp only [Op.equalIn, Sem.run_bind, run_underlying hd, Result.andThen_ok, Sem.run_pure]; try rfl
  | map k e =>
    cases hx <;> first | (cases h1; done) | skip
    all_goals
      cases hy <;> first | (cases h1; done) | skip
    all_goals
      cases h1; exact equal_of fun n => by simp only [Op.equalIn, Sem.run_bind, run_underlying hd, Result.andThen_ok, Sem.run_pure]; try rfl
  | func a b c =>
    cases hx <;> first | (cases h1; done) | skip
    all_goals
      cases hy <;> first | (cases h1; done) | skip
    all_goals
      cases h1; exact equal_of fun n => by simp only [Op.equalIn, Sem.run_bind, run_underlying hd, Result.andThen_ok, Sem.run_pure]
  | interface ms =>
    cases hx <;> first | (cases h1; done) | skip
    all_goals
      cases hy <;> first | (cases h1; done) | skip
    all_goals
      cases h1; exact equal_of fun n => by simp only [Op.equalIn, Sem.run_bind, run_underlying hd, Result.andThen_ok, Sem.run_pure]
  | invalid => exact key h1
  | bool => exact key h1
  | int k => exact key h1
  | float k => exact key h1
  | complex k => exact key h1
  | string => exact key h1
  | unsafePointer => exact key h1
  | array n e => exact key h1
  | chan d e => exact key h1
  | struct fs => exact key h1
  | tuple ts => exact key h1
  | named n u => exact key h1

/-- the guard ahead of '==' -/
def eqGuardA (P : Program) (t : TypeId) (c : Bool) (x y : AV) : Bool :=
  match x, y with
  | .nili, .nili => c
  | .agg _, .agg _ => bnot (P.eqGuardType P.depth t)
  | .opq _, _ => false
  | _, .opq _ => false
  | _, _ => true

def isConstO : Operand → Bool
  | .const _ => true
  | _ => false

theorem eqGuardA_ok {t : TypeId} {op : BinOp} {xo yo : Operand} {x y : AV} {xv yv : Value} (hx : VR env ι x xv) (hy : VR env ι y yv)
    (hg : eqGuardA P t (bif' (isConstO xo) true (isConstO yo)) x y = true) (w : World) : (eqGuard op t xo yo xv yv).run P w = .ok () w := by
  have gen : ∀ {a b : Value}, (a = .nilIface → b ≠ .nilIface) → (∀ c d, a = .agg c → b ≠ .agg d) → (eqGuard op t xo yo a b).run P w = .ok () w := by
    intro a b h1 h2
    cases op <;> first | rfl | skip
    all_goals
      cases a <;> first | rfl | skip
      all_goals
        cases b <;> first | rfl | (exact absurd rfl (h1 rfl)) | (exact absurd rfl (h2 _ _ rfl))
  cases hx
  case nili =>
    cases hy
    case nili =>
      have hc : bif' (isConstO xo) true (isConstO yo) = true := hg
      cases op <;> first | rfl | skip
      all_goals
        cases xo <;> first | rfl | skip
        all_goals
          cases yo <;> first | rfl | (exact absurd hc (by simp [isConstO, bif']))
    case opq i hi => cases hg
    all_goals exact gen (fun _ h => by cases h) (fun c d h => by cases h)
  case agg r xs hrow =>
    cases hy
    case agg q ys hrow' =>
      have hc : bnot (P.eqGuardType P.depth t) = true := hg
      have : P.eqGuardType P.depth t = false := by rw [bnot_eq] at hc; simpa using hc
      exact run_eqGuard_agg w op t xo yo _ _ this
    case opq i hi => cases hg
    all_goals exact gen (fun h => by cases h) (fun c d _ h => by cases h)
  case opq i hi => cases y <;> cases hg
  all_goals exact gen (fun h => by cases h) (fun c d h => by cases h)

def eqRest (P : Program) (op : BinOp) (t : TypeId) (x y : AV) (h : AHeap) : Option AV :=
  match op with
  | .eql => obind (eqA P t x y h) fun b => some (.bool b)
  | .neq => obind (eqA P t x y h) fun b => some (.bool (bnot b))
  | _ => none

def binA (P : Program) (op : BinOp) (t : TypeId) (x y : AV) (h : AHeap) : Option AV :=
  match x, y with
  | .int k a, .int k' b => match op with
    | .shl => ishift .shl k a b
    | .shr => ishift .shr k a b
    | op => bif' (Nat.beq (kidx k) (kidx k')) (isum op k a b) none
  | .str n N, .str m M => match op with
    | .eql => some (.bool (strEq n N m M))
    | .neq => some (.bool (bnot (strEq n N m M)))
    | .add => bif' (Nat.blt (Nat.add n m) 4611686018427387904) (forceN (Nat.add n m) fun k => forceN (Nat.add (Nat.mod N (Nat.pow 256 n)) (Nat.mul M (Nat.pow 256 n))) fun K => some (.str k K)) none
    | _ => none
  | .opq _, _ => none
  | .int _ _, _ => none
  | .str _ _, _ => none
  | x, y => eqRest P op t x y h

theorem digS_append (n N m M : Nat) : digS (n + m) (N % 256 ^ n + M * 256 ^ n) = digS n N ++ digS m M := by
  have : (digS (n + m) (N % 256 ^ n + M * 256 ^ n)).data = (digS n N ++ digS m M).data := by
    rw [ByteArray.data_append]
    simp only [digS, dig_glue]
    apply Array.ext'
    simp
  exact ByteArray.ext this

theorem eqStr (n N m M : Nat) : ((digS n N).toList == (digS m M).toList) = strEq n N m M := by
  rw [strEq_eq, beq_toListBytes]

theorem binStr_ok {op : BinOp} {t : TypeId} {n N m M : Nat} {u : AV} (hl : binA P op t (.str n N) (.str m M) h = some u) (w : World) :
    ∃ z, (binOp op t (.string (digS n N)) (.string (digS m M))).run P w = .ok z w ∧ VR env ι u z := by
  cases op <;> first | (cases hl; done) | skip
  · rcases bif'_some (b := Nat.blt (Nat.add n m) 4611686018427387904) hl with ⟨hb, h1⟩ | ⟨_, h1⟩
    case inr => cases h1
    rw [forceN_eq, forceN_eq] at h1; cases h1
    have hlt : n + m < 4611686018427387904 := bltT hb
    refine ⟨.string (digS n N ++ digS m M), ?_, ?_⟩
    · have : ¬ ((((digS n N).size + (digS m M).size : Nat) : Int) > IntKind.i64.max) := by
        rw [digS_size, digS_size]; show ¬ ((n + m : Nat) : Int) > 2 ^ (64 - 1) - 1; omega
      simp only [binOp, Op.stringOp]
      rw [if_neg this]; rfl
    · rw [← digS_append]; exact .str _ _
  · cases hl
    refine ⟨.bool ((digS n N).toList == (digS m M).toList), rfl, ?_⟩
    rw [eqStr]; exact .bool _
  · cases hl
    refine ⟨.bool (!((digS n N).toList == (digS m M).toList)), rfl, ?_⟩
    rw [eqStr, bnot_eq]; exact .bool _

theorem VR.noNum {x : AV} {xv : Value} (hx : VR env ι x xv) (h1 : ∀ k n, x ≠ .int k n) (h2 : ∀ n N, x ≠ .str n N) (h3 : ∀ i, x ≠ .opq i) : noNum xv = true := by
  cases hx <;> first | rfl | (exact absurd rfl (h1 _ _)) | (exact absurd rfl (h2 _ _)) | (exact absurd rfl (h3 _))

theorem binA_ok (hr : HR env W ι h w) {op : BinOp} {t : TypeId} {x y u : AV} {xv yv : Value} (hx : VR env ι x xv) (hy : VR env ι y yv) (hl : binA P op t x y h = some u) :
    Good P env W (binOp op t xv yv) w ι u h := by
  have gen : (∀ k n, x ≠ .int k n) → (∀ n N, x ≠ .str n N) → (∀ i, x ≠ .opq i) → eqRest P op t x y h = some u → Good P env W (binOp op t xv yv) w ι u h := by
    intro h1 h2 h3 h4
    have hn := hx.noNum h1 h2 h3
    cases op <;> first | (cases h4; done) | skip
    · obtain ⟨b, hb, h5⟩ := obind_eq h4
      cases h5
      refine Good.same hr (x := .bool b) ?_ (.bool b)
      rw [binOp_eql yv hn]; simp [eqA_ok hr hx hy hb]
    · obtain ⟨b, hb, h5⟩ := obind_eq h4
      cases h5
      refine Good.same hr (x := .bool (!b)) ?_ (by rw [bnot_eq]; exact .bool _)
      rw [binOp_neq yv hn]; simp [eqA_ok hr hx hy hb]
  cases hx
  case int k a =>
    cases y <;> first | (cases hl; done) | skip
    rename_i k' b
    cases hy
    have hsum : ∀ {o : BinOp}, bif' (Nat.beq (kidx k) (kidx k')) (isum o k a b) none = some u → o = op → Good P env W (binOp op t (.int k a) (.int k' b)) w ι u h := by
      intro o h1 ho
      subst ho
      rcases bif'_some h1 with ⟨h2, h3⟩ | ⟨_, h3⟩
      case inr => cases h3
      have := kidx_inj h2
      subst this
      obtain ⟨z, hz, hv⟩ := isum_ok P (env := env) (ι := ι) t h3 w
      exact Good.same hr hz hv
    cases op
    case shl =>
      obtain ⟨z, hz, hv⟩ := ishift_ok P (env := env) (ι := ι) (k' := k') t (show ishift .shl k a b = some u from hl) w
      exact Good.same hr hz hv
    case shr =>
      obtain ⟨z, hz, hv⟩ := ishift_ok P (env := env) (ι := ι) (k' := k') t (show ishift .shr k a b = some u from hl) w
      exact Good.same hr hz hv
    all_goals exact hsum hl rfl
  case str n N =>
    cases y <;> first | (cases hl; done) | skip
    cases hy
    obtain ⟨z, hz, hv⟩ := binStr_ok (env := env) (ι := ι) hl w
    exact Good.same hr hz hv
  case opq i hi => cases y <;> cases hl
  all_goals
    refine gen (fun _ _ h => by cases h) (fun _ _ h => by cases h) (fun _ h => by cases h) ?_
    cases y <;> first | exact hl | (exact (by cases hy))

/-- !, -, ^ -/
def unA (op : UnOp) (x : AV) : Option AV :=
  match op, x with
  | .not, .bool b => some (.bool (bnot b))
  | .neg, .int k n => some (mkI k (wrapF k (Int.sub 0 n)))
  | _, _ => none

theorem unA_ok (hr : HR env W ι h w) {op : UnOp} {x u : AV} {xv : Value} (hx : VR env ι x xv) (hl : unA op x = some u) : Good P env W (Op.unary op xv) w ι u h := by
  cases op <;> cases hx <;> first | (cases hl; done) | skip
  · cases hl
    rw [mkI_eq, wrapF_eq]
    rename_i k n
    exact Good.same hr (x := .int k (k.wrap (0 - n))) (by simp [Op.unary, Op.intArith]) (.int _ _)
  · cases hl
    rename_i b
    exact Good.same hr (x := .bool (!b)) (by simp [Op.unary]) (by rw [bnot_eq]; exact .bool _)

/-- a block is told as one that may bear a mark behind its cells -/
def markA (h : AHeap) (b : Nat) : Option AHeap :=
  obind (h.at b) fun o => match o with
  | .cells r opn _ => some (h.put b (some (.cells r opn false)))
  | _ => none

/-- conversions -/
def convA (P : Program) (src dst : TypeId) (x : AV) (h : AHeap) : Option (AV × AHeap) :=
  obind (P.underlying src) fun s => obind (P.underlying dst) fun d => match d, x with
  | .int k, .int _ n => some (mkI k (wrapF k n), h)
  | .string, .str n N => some (.str n N, h)
  | .slice e, .str n N => bif' (isU8 P e) (forceN h.next fun b => some (.sliceu b 0 n 1, h.new (.cells (bif' (Nat.beq n 0) [] [.bytes n N]) true false))) none
  | .slice e, .slice b off len cap => bif' (Nat.beq src dst) (bif' (isU8 P e) (obind (markA h b) fun h' => some (.slice b off len cap, h')) none) none
  | .slice e, .sliceu b off len es => bif' (Nat.beq src dst) (bif' (isU8 P e) (obind (markA h b) fun h' => some (.sliceu b off len es, h')) none) none
  | .string, x => match s with
    | .slice e => bif' (isU8 P e) (obind (lenA x) fun n => match x with
      | .nils => some (.str 0 0, h)
      | .str _ _ => none
      | _ => obind (cellsA 1 n x h) fun q => match q with
        | [] => some (.str 0 0, h)
        | [.bytes m M] => some (.str m M, h)
        | _ => none) none
    | _ => none
  | _, _ => none

theorem isU8_ok {t : TypeId} (hu : isU8 P t = true) : P.underlying t = some (.int .u8) := by
  unfold isU8 at hu
  split at hu
  · assumption
  · cases hu

/-- a string's bytes in memory of their own -/
theorem run_stringToBytes (e : TypeId) (n N : Nat) (w : World) : ∃ cap, n ≤ cap ∧
    (Conv.stringToBytes e (digS n N)).run P w = .ok (.slice (some ⟨w.heap.size, 0, none⟩) n cap)
      { w with heap := w.heap.push (.cells (digV n N ++ List.replicate (cap - n) (Value.int .u8 0)).toArray e (cap, cap + 1)), drawn := w.drawn + 1 } := by
  let cap := Question.cut (.appendCap n 0 e) (w.tape w.drawn (.appendCap n 0 e))
  have hc : n ≤ cap := by show n ≤ n + _; omega
  refine ⟨cap, hc, ?_⟩
  have hf : (Question.appendCap n 0 e).forced = false := rfl
  have hd : ((digS n N).data.map fun b => Value.int .u8 (b.toNat : Int)) = (digV n N).toArray := by
    apply Array.ext'; rw [digV_digS]
  simp only [Conv.stringToBytes, Sem.run_bind, digS_size, run_choose, hf, Bool.false_eq_true, if_false, Result.andThen_ok, newRow, run_newObj, Sem.run_pure, markStringish, run_shape]
  rw [hd]
  have hsh : (World.shape? { w with heap := w.heap.push (Obj.cells ((digV n N).toArray ++ Array.replicate (cap - n) (Value.int .u8 0)) e), drawn := w.drawn + 1 } w.heap.size) = some (e, cap) := by
    simp [World.shape?, digV_length]; omega
  have hcap : Question.cut (.appendCap n 0 e) (w.tape w.drawn (.appendCap n 0 e)) = cap := rfl
  rw [hcap]
  simp only [hsh, run_freeze, Result.andThen_ok]
  congr 2
  have hlist : ((digV n N).toArray ++ Array.replicate (cap - n) (Value.int .u8 0)) = (digV n N ++ List.replicate (cap - n) (Value.int .u8 0)).toArray := by
    apply Array.ext'; simp
  rw [hlist]
  simp only [World.freeze]
  rw [if_neg (by omega)]
  congr 1
  apply Array.ext_getElem?
  intro i
  simp only [Array.getElem?_modify, Array.getElem?_push]
  by_cases hi : i = w.heap.size
  · subst hi; simp
  · rw [if_neg hi, if_neg (fun h => hi h.symm), if_neg hi]

theorem bytesToString_loop (xs : List Nat) (hx : ∀ d ∈ xs, d < 256) : ∀ (s : ByteArray) (w : World),
    (forIn (xs.map fun (d : Nat) => Value.int .u8 (d : Int)) s fun c s => (do
      let .int .u8 n := c | stuck "bytesToString: byte expected"
      pure (ForInStep.yield (s.push (UInt8.ofNat n.toNat))) : Sem (ForInStep ByteArray))).run P w = .ok ⟨s.data ++ (xs.map UInt8.ofNat).toArray⟩ w := by
  induction xs with
  | nil => intro s w; simp
  | cons d xs ih =>
    intro s w
    simp only [List.map_cons, List.forIn_cons, Sem.run_bind, Sem.run_pure, Result.andThen_ok]
    rw [ih (fun d hd => hx d (by simp [hd]))]
    congr 1
    have : (s.push (UInt8.ofNat ((d : Int).toNat))).data = s.data.push (UInt8.ofNat d) := by simp [ByteArray.push]
    rw [this]
    congr 1
    apply Array.ext'
    simp

theorem markA_ok (hr : HR env W ι h w) {b c s off : Nat} (hc : ι b = some (c, s)) (hm : markA h b = some h') :
    ∃ w', (markStringish ⟨c, off, none⟩).run P w = .ok () w' ∧ HR env W ι h' w' := by
  obtain ⟨o, ho, h1⟩ := obind_eq hm
  cases o <;> first | (cases h1; done) | skip
  rename_i r opn plain
  cases h1
  obtain ⟨cs, e, fz, xs, tail, rfl, a2, a3, a4, a5, a6⟩ := hr.cells ho hc
  have a1 := hc
  have hlt := hr.rng b c _ a1
  have hsh : w.shape? c = some (e, cs.size) := by simp [World.shape?, a2]
  obtain ⟨lo, hi_⟩ := fz
  refine ⟨putObj w c (.cells cs e (if lo == hi_ then (cs.size, cs.size + 1) else (min lo cs.size, max hi_ (cs.size + 1)))), ?_, hr.set ho a1 ?_⟩
  · simp only [markStringish, Sem.run_bind, run_shape, hsh, Result.andThen_ok, run_freeze]
    congr 1
    simp only [World.freeze, putObj]
    rw [if_neg (by omega)]
    congr 1
    apply Array.ext_getElem?
    intro i
    simp only [Array.getElem?_modify, Array.getElem?_setIfInBounds]
    by_cases hi : i = c
    · subst hi
      have hg : w.heap[i]'hlt.2 = .cells cs e (lo, hi_) := by rw [Array.getElem?_eq_getElem hlt.2] at a2; exact Option.some.inj a2
      simp [hlt.2, hg]
    · rw [if_neg (fun h => hi h.symm), if_neg (fun h => hi h.symm)]
  · refine .cells r opn false cs e _ xs tail a3 a4 a5 (.inr ⟨rfl, ?_⟩)
    split
    · exact Nat.le_refl _
    · rename_i hne
      rcases a6 with h | ⟨_, h⟩
      · cases h; simp at hne
      · simp at h ⊢; omega

theorem convA_ok (hr : HR env W ι h w) {src dst : TypeId} {x u : AV} {xv : Value} (hx : VR env ι x xv) (hl : convA P src dst x h = some (u, h')) : Good P env W (convert src dst xv) w ι u h' := by
  obtain ⟨s, hs, h1⟩ := obind_eq hl
  obtain ⟨d, hd, h2⟩ := obind_eq h1
  clear hl h1
  cases d with
  | int k =>
    cases hx <;> first | (cases h2; done) | skip
    cases h2
    rw [mkI_eq, wrapF_eq]
    rename_i k' n
    exact Good.same hr (x := .int k (k.wrap n)) (by simp [convert, run_underlying hs, run_underlying hd, Conv.intToInt]) (.int _ _)
  | slice e =>
    cases hx <;> first | (cases h2; done) | skip
    · rename_i n N
      rcases bif'_some h2 with ⟨hu, h3⟩ | ⟨_, h3⟩
      case inr => cases h3
      rw [forceN_eq] at h3; cases h3
      obtain ⟨cap, hc, hrun⟩ := run_stringToBytes (P := P) e n N w
      have hr1 := hr.drew (w.drawn + 1)
      refine ⟨ι.add h.next (w.heap.size, cap), { w with heap := w.heap.push (.cells (digV n N ++ List.replicate (cap - n) (Value.int .u8 0)).toArray e (cap, cap + 1)), drawn := w.drawn + 1 }, .slice (some ⟨w.heap.size, 0, none⟩) n cap, ?_, hr.ext_new _, ?_, ?_⟩
      · have := isU8_ok hu
        simp only [convert, Sem.run_bind, run_underlying hs, run_underlying hd, Result.andThen_ok, run_underlying this]
        exact hrun
      · exact .sliceu _ _ _ _ _ cap cap (by simp [Inj.add]) hc (by simp)
      · have hsz : (digV n N ++ List.replicate (cap - n) (Value.int .u8 0)).toArray.size = cap := by simp [digV_length]; omega
        have hor : OR env (ι.add h.next (w.heap.size, cap)) (.cells (bif' (Nat.beq n 0) [] [.bytes n N]) true false) cap (.cells (digV n N ++ List.replicate (cap - n) (Value.int .u8 0)).toArray e (cap, cap + 1)) := by
          have := OR.cells (env := env) (ι := ι.add h.next (w.heap.size, cap)) (bif' (Nat.beq n 0) [] [.bytes n N]) true false (digV n N ++ List.replicate (cap - n) (Value.int .u8 0)).toArray e (cap, cap + 1) (digV n N) (List.replicate (cap - n) (Value.int .u8 0)) (by simp) ?_ (fun h => by cases h) (.inr ⟨rfl, by rw [hsz]; exact Nat.le_refl _⟩)
          · rwa [hsz] at this
          · cases hb : Nat.beq n 0 with
            | true => have := beqT hb; subst this; exact .nil
            | false =>
              have := RR.bytes (env := env) (ι := ι.add h.next (w.heap.size, cap)) n N [] [] .nil
              rwa [List.append_nil] at this
        exact hr1.new hor
    · rename_i b off len cap c sz hc
      rcases bif'_some h2 with ⟨he, h3⟩ | ⟨_, h3⟩
      case inr => cases h3
      rcases bif'_some h3 with ⟨hu, h4⟩ | ⟨_, h4⟩
      case inr => cases h4
      obtain ⟨h5, hm, h6⟩ := obind_eq h4
      cases h6
      have : src = dst := beqT he
      subst this
      rw [hd] at hs; cases hs
      obtain ⟨w', hw', hr'⟩ := markA_ok (P := P) (off := off) hr hc hm
      exact ⟨ι, w', _, by simp [convert, run_underlying hd, run_underlying (isU8_ok hu), hw'], .refl ι, .slice _ _ _ _ _ _ hc, hr'⟩
    · rename_i b off len es c sz cap hc h7 h8
      rcases bif'_some h2 with ⟨he, h3⟩ | ⟨_, h3⟩
      case inr => cases h3
      rcases bif'_some h3 with ⟨hu, h4⟩ | ⟨_, h4⟩
      case inr => cases h4
      obtain ⟨h5, hm, h6⟩ := obind_eq h4
      cases h6
      have : src = dst := beqT he
      subst this
      rw [hd] at hs; cases hs
      obtain ⟨w', hw', hr'⟩ := markA_ok (P := P) (off := off) hr hc hm
      exact ⟨ι, w', _, by simp [convert, run_underlying hd, run_underlying (isU8_ok hu), hw'], .refl ι, .sliceu _ _ _ _ _ _ _ hc h7 h8, hr'⟩
  | string =>
    have gen : ∀ (e : TypeId), s = .slice e → (∀ n N, x ≠ .str n N) → bif' (isU8 P e) (obind (lenA x) fun n => match x with
      | .nils => some (.str 0 0, h)
      | .str _ _ => none
      | _ => obind (cellsA 1 n x h) fun q => match q with
        | [] => some (.str 0 0, h)
        | [.bytes m M] => some (.str m M, h)
        | _ => none) none = some (u, h') → Good P env W (convert src dst xv) w ι u h' := by
      intro e he hns h3
      subst he
      rcases bif'_some h3 with ⟨hu, h4⟩ | ⟨_, h4⟩
      case inr => cases h4
      have hue := isU8_ok hu
      obtain ⟨n, hn, h5⟩ := obind_eq h4
      have fin : ∀ (base : Option Addr) (len cap : Nat), xv = .slice base len cap → len = n → (∃ a, base = some a) → (obind (cellsA 1 n x h) fun q => match q with
        | [] => some (AV.str 0 0, h)
        | [.bytes m M] => some (.str m M, h)
        | _ => none) = some (u, h') → Good P env W (convert src dst xv) w ι u h' := by
        intro base len cap hxv hlen hb h6
        obtain ⟨a, rfl⟩ := hb
        obtain ⟨q, hq, h7⟩ := obind_eq h6
        obtain ⟨xs, hc, hrow, _, _⟩ := cellsA_ok (P := P) hr hx hq (fun e => by subst e; cases hn; rfl)
        subst hxv
        have hload : (loadCells a n).run P w = .ok xs.toArray w := by simpa [Builtin.firstCells] using hc
        have hdig : ∃ m M, xs = digV m M ∧ u = .str m M ∧ h' = h := by
          split at h7
          · cases h7; cases hrow; exact ⟨0, 0, rfl, rfl, rfl⟩
          · cases h7
            cases hrow with
            | bytes m M _ ys c => cases c; exact ⟨_, _, by simp, rfl, rfl⟩
          · cases h7
        obtain ⟨mm, MM, e1, e2, e3⟩ := hdig
        subst e1; subst e2; subst e3
        refine Good.same hr (x := .string (digS mm MM)) ?_ (.str _ _)
        have hloop := bytesToString_loop (P := P) (dig mm MM) (dig_lt mm MM) .empty w
        simp only [convert, Sem.run_bind, run_underlying hs, run_underlying hd, Result.andThen_ok, run_underlying hue, Conv.bytesToString, hlen, hload]
        rw [← Array.forIn_toList]
        refine (congrArg (fun r => Result.andThen r _) hloop).trans ?_
        simp [digS]
      cases hx <;> first | (cases hn; done) | skip
      · exact absurd rfl (hns _ _)
      · cases h5; cases hn
        exact Good.same hr (x := .string .empty) (by simp [convert, run_underlying hs, run_underlying hd, run_underlying hue, Conv.bytesToString]) (.str 0 0)
      · cases hn; exact fin _ _ _ rfl rfl ⟨_, rfl⟩ h5
      · cases hn; exact fin _ _ _ rfl rfl ⟨_, rfl⟩ h5
    cases hx
    case str n N =>
      cases h2
      exact Good.same hr (x := .string (digS n N)) (by simp [convert, run_underlying hs, run_underlying hd]) (.str _ _)
    all_goals
      cases s <;> first | (cases h2; done) | (exact gen _ rfl (fun _ _ h => by cases h) h2)
  | _ => cases hx <;> cases h2

end
end Go.Ab
