/- Whole numbers, quickly reckoned. -/
import Derived.Test.YtdakmcoggmlglaaGreatAbHeap
import Derived.Laws.Entries
import GoSem.Dispatch
set_option linter.all false
namespace Go.Ab
noncomputable section

def limK : IntKind → Nat
  | .i8 => 128
  | .u8 => 256
  | .i16 => 32768
  | .u16 => 65536
  | .i32 => 2147483648
  | .u32 => 4294967296
  | .i64 => 9223372036854775808
  | .u64 => 18446744073709551616

theorem wrap_small (k : IntKind) (a : Nat) (h : a < limK k) : k.wrap (.ofNat a) = .ofNat a := by
  have e : (Int.ofNat a) = (a : Int) := rfl
  rw [e]
  cases k <;> simp only [limK] at h <;> simp only [IntKind.wrap, IntKind.bits, IntKind.signed, Bool.true_and, Bool.false_and, Nat.reduceSub, Int.reducePow, Bool.false_eq_true, if_false] <;>
    first
      | omega
      | (rw [if_neg (by simp; omega)]; omega)

def wrapF (k : IntKind) (n : Int) : Int :=
  Int.rec (fun a => bif' (Nat.blt a (limK k)) (.ofNat a) (k.wrap (.ofNat a))) (fun a => k.wrap (.negSucc a)) n

theorem wrapF_eq (k : IntKind) (n : Int) : wrapF k n = k.wrap n := by
  cases n with
  | ofNat a =>
    show bif' (Nat.blt a (limK k)) (.ofNat a) (k.wrap (.ofNat a)) = _
    cases h : Nat.blt a (limK k)
    · rfl
    · exact (wrap_small k a (bltT h)).symm
  | negSucc a => rfl

def ilt (x y : Int) : Bool :=
  Int.rec (fun a => Int.rec (fun b => Nat.blt a b) (fun _ => false) y) (fun a => Int.rec (fun _ => true) (fun b => Nat.blt b a) y) x

theorem blt_iff {a b : Nat} : Nat.blt a b = true ↔ a < b := by rw [Nat.blt_eq]

theorem ilt_iff (x y : Int) : ilt x y = true ↔ x < y := by
  cases x with
  | ofNat a => cases y with
    | ofNat b => show Nat.blt a b = true ↔ _; rw [blt_iff]; simp
    | negSucc b => show false = true ↔ _; simp; omega
  | negSucc a => cases y with
    | ofNat b => show true = true ↔ _; simp; omega
    | negSucc b => show Nat.blt b a = true ↔ _; rw [blt_iff]; omega

theorem ilt_eq (x y : Int) : ilt x y = decide (x < y) := by
  rw [Bool.eq_iff_iff, ilt_iff]; simp

def ieq (x y : Int) : Bool :=
  Int.rec (fun a => Int.rec (fun b => Nat.beq a b) (fun _ => false) y) (fun a => Int.rec (fun _ => false) (fun b => Nat.beq a b) y) x

theorem beq_iff' {a b : Nat} : Nat.beq a b = true ↔ a = b := ⟨beqT, fun h => by subst h; exact Nat.beq_refl a⟩

theorem ieq_iff (x y : Int) : ieq x y = true ↔ x = y := by
  cases x with
  | ofNat a => cases y with
    | ofNat b => show Nat.beq a b = true ↔ _; rw [beq_iff']; simp; omega
    | negSucc b => show false = true ↔ _; simp
  | negSucc a => cases y with
    | ofNat b => show false = true ↔ _; simp
    | negSucc b => show Nat.beq a b = true ↔ _; rw [beq_iff']; simp

theorem ieq_eq (x y : Int) : ieq x y = (x == y) := by
  rw [Bool.eq_iff_iff, ieq_iff]; simp

def bnot (b : Bool) : Bool := Bool.rec true false b
theorem bnot_eq (b : Bool) : bnot b = !b := by cases b <;> rfl

/-- the number of a nonnegative integer -/
def natOf (n : Int) : Option Nat := Int.rec (fun a => some a) (fun _ => none) n
theorem natOf_eq {n : Int} {a : Nat} (h : natOf n = some a) : n = (a : Int) := by
  cases n with
  | ofNat b => cases h; rfl
  | negSucc b => cases h

/-- & | ^ &^ at numbers that are not negative -/
def ibits (op : BinOp) (k : IntKind) (a b : Nat) : Option Nat :=
  bif' (Nat.blt a (Nat.pow 2 k.bits)) (bif' (Nat.blt b (Nat.pow 2 k.bits))
    (match op with
    | .and => some (Nat.land a b)
    | .or => some (Nat.lor a b)
    | .xor => some (Nat.xor a b)
    | .andNot => some (Nat.land a (Nat.sub (Nat.sub (Nat.pow 2 k.bits) 1) b))
    | _ => none) none) none

theorem ibits_ok (P : Program) {op : BinOp} {k : IntKind} {a b r : Nat} (h : ibits op k a b = some r) (w : World) :
    (Op.intBits op k (a : Int) (b : Int)).run P w = .ok (.int k (k.wrap (r : Int))) w := by
  rcases bif'_some h with ⟨ha, h1⟩ | ⟨_, h1⟩
  case inr => cases h1
  rcases bif'_some h1 with ⟨hb, h2⟩ | ⟨_, h2⟩
  case inr => cases h2
  have ha' : a < 2 ^ k.bits := bltT ha
  have hb' : b < 2 ^ k.bits := bltT hb
  have e1 : (BitVec.ofInt k.bits (a : Int)).toNat = a := by simp [Nat.mod_eq_of_lt ha']
  have e2 : (BitVec.ofInt k.bits (b : Int)).toNat = b := by simp [Nat.mod_eq_of_lt hb']
  cases op <;> first | cases h2 | skip
  · simp only [Op.intBits, Sem.run_pure, BitVec.toNat_and, e1, e2]; rfl
  · simp only [Op.intBits, Sem.run_pure, BitVec.toNat_or, e1, e2]; rfl
  · simp only [Op.intBits, Sem.run_pure, BitVec.toNat_xor, e1, e2]; rfl
  · simp only [Op.intBits, Sem.run_pure, BitVec.toNat_and, BitVec.toNat_not, e1, e2]; rfl

def isum (op : BinOp) (k : IntKind) (x y : Int) : Option AV :=
  match op with
  | .add => some (mkI k (wrapF k (Int.add x y)))
  | .sub => some (mkI k (wrapF k (Int.sub x y)))
  | .mul => some (mkI k (wrapF k (Int.mul x y)))
  | .quo => bif' (ieq y 0) none (some (mkI k (wrapF k (Int.tdiv x y))))
  | .rem => bif' (ieq y 0) none (some (mkI k (Int.tmod x y)))
  | .and | .or | .xor | .andNot => obind (natOf x) fun a => obind (natOf y) fun b => obind (ibits op k a b) fun r => some (mkI k (wrapF k (.ofNat r)))
  | .eql => some (.bool (ieq x y))
  | .neq => some (.bool (bnot (ieq x y)))
  | .lss => some (.bool (ilt x y))
  | .leq => some (.bool (bnot (ilt y x)))
  | .gtr => some (.bool (ilt y x))
  | .geq => some (.bool (bnot (ilt x y)))
  | _ => none

theorem isum_ok (P : Program) {env : Nat → Value} {ι : Inj} {op : BinOp} {k : IntKind} {x y : Int} {v : AV} (t : TypeId) (h : isum op k x y = some v) (w : World) :
    ∃ z, (binOp op t (.int k x) (.int k y)).run P w = .ok z w ∧ VR env ι v z := by
  cases op <;> simp only [isum] at h <;> first | (cases h; done) | skip
  · cases h; rw [mkI_eq, wrapF_eq]; exact ⟨.int k (k.wrap (x + y)), by simp [binOp, Op.intArith], .int _ _⟩
  · cases h; rw [mkI_eq, wrapF_eq]; exact ⟨.int k (k.wrap (x - y)), by simp [binOp, Op.intArith], .int _ _⟩
  · cases h; rw [mkI_eq, wrapF_eq]; exact ⟨.int k (k.wrap (x * y)), by simp [binOp, Op.intArith], .int _ _⟩
  · rcases bif'_some h with ⟨_, h1⟩ | ⟨h0, h1⟩
    · cases h1
    · cases h1
      have hy : y ≠ 0 := fun e => by rw [← ieq_iff, h0] at e; cases e
      rw [mkI_eq, wrapF_eq]; exact ⟨.int k (k.wrap (x.tdiv y)), by simp [binOp, Op.intDiv, hy], .int _ _⟩
  · rcases bif'_some h with ⟨_, h1⟩ | ⟨h0, h1⟩
    · cases h1
    · cases h1
      have hy : y ≠ 0 := fun e => by rw [← ieq_iff, h0] at e; cases e
      rw [mkI_eq]; exact ⟨.int k (x.tmod y), by simp [binOp, Op.intDiv, hy], .int _ _⟩
  case and | or | xor | andNot =>
    obtain ⟨a, ha, h1⟩ := obind_eq h
    obtain ⟨b, hb, h2⟩ := obind_eq h1
    obtain ⟨r, hr, h3⟩ := obind_eq h2
    cases h3
    rw [natOf_eq ha, natOf_eq hb, mkI_eq, wrapF_eq]
    exact ⟨_, by simp only [binOp]; rw [if_neg (by simp)]; exact ibits_ok P hr w, .int _ _⟩
  case eql => cases h; exact ⟨.bool (x == y), by simp [binOp, Op.intCmp], by rw [ieq_eq]; exact .bool _⟩
  case neq => cases h; exact ⟨.bool (x != y), by simp [binOp, Op.intCmp], by rw [ieq_eq, bnot_eq]; exact .bool _⟩
  case lss => cases h; exact ⟨.bool (decide (x < y)), by simp [binOp, Op.intCmp], by rw [ilt_eq]; exact .bool _⟩
  case leq => cases h; exact ⟨.bool (decide (x ≤ y)), by simp [binOp, Op.intCmp], by rw [ilt_eq, bnot_eq, ← decide_not]; simp only [Int.not_lt]; exact .bool _⟩
  case gtr => cases h; exact ⟨.bool (decide (x > y)), by simp [binOp, Op.intCmp], by rw [ilt_eq]; exact .bool _⟩
  case geq => cases h; exact ⟨.bool (decide (x ≥ y)), by simp [binOp, Op.intCmp], by rw [ilt_eq, bnot_eq, ← decide_not]; simp only [Int.not_lt]; exact .bool _⟩

/-- << >> -/
def ishift (op : BinOp) (k : IntKind) (x y : Int) : Option AV :=
  obind (natOf y) fun b => match op with
    | .shl => some (mkI k (wrapF k (Int.mul x (.ofNat (Nat.pow 2 (bif' (Nat.blt b k.bits) b k.bits))))))
    | .shr => obind (natOf x) fun a => some (mkI k (.ofNat (Nat.div a (Nat.pow 2 (bif' (Nat.blt b k.bits) b k.bits)))))
    | _ => none

theorem bif'_min (b n : Nat) : bif' (Nat.blt b n) b n = min b n := by
  cases h : Nat.blt b n
  · have := bltF h; simp only [bif'_false]; omega
  · have := bltT h; simp only [bif'_true]; omega

theorem ishift_ok (P : Program) {env : Nat → Value} {ι : Inj} {op : BinOp} {k k' : IntKind} {x y : Int} {v : AV} (t : TypeId) (h : ishift op k x y = some v) (w : World) :
    ∃ z, (binOp op t (.int k x) (.int k' y)).run P w = .ok z w ∧ VR env ι v z := by
  obtain ⟨b, hb, h1⟩ := obind_eq h
  have hy := natOf_eq hb
  subst hy
  cases op <;> first | (cases h1; done) | skip
  · cases h1
    rw [mkI_eq, wrapF_eq, bif'_min]
    refine ⟨.int k (k.wrap (x * 2 ^ (min b k.bits))), ?_, ?_⟩
    · simp only [binOp, Op.shift]; rw [if_neg (by omega)]; simp
    · have : Int.mul x (Int.ofNat (Nat.pow 2 (min b k.bits))) = x * 2 ^ (min b k.bits) := by
        show x * (((2 ^ (min b k.bits) : Nat)) : Int) = _
        rw [Int.natCast_pow]; rfl
      rw [this]; exact .int _ _
  · obtain ⟨a, ha, h2⟩ := obind_eq h1
    have hx := natOf_eq ha
    subst hx
    cases h2
    rw [mkI_eq, bif'_min]
    refine ⟨.int k ((a : Int).fdiv (2 ^ (min b k.bits))), ?_, ?_⟩
    · simp only [binOp, Op.shift]; rw [if_neg (by omega)]; simp
    · have : (a : Int).fdiv (2 ^ (min b k.bits)) = Int.ofNat (Nat.div a (Nat.pow 2 (min b k.bits))) := by
        have e : (2 : Int) ^ (min b k.bits) = ((2 ^ (min b k.bits) : Nat) : Int) := by rw [Int.natCast_pow]; rfl
        rw [e]; exact (Int.ofNat_fdiv _ _).symm
      rw [this]; exact .int _ _

end
end Go.Ab
