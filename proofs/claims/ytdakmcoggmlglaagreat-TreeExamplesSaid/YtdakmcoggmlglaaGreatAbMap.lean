/- Maps with keys that are whole numbers, strings, bools. -/
import Derived.Test.YtdakmcoggmlglaaGreatAbOps4
set_option linter.all false
namespace Go.Ab
open Go.RowKit
noncomputable section

variable {P : Program} {env : Nat → Value} {W : Base} {w : World} {ι : Inj} {h h' : AHeap}

theorem dig_inj (n : Nat) : ∀ N M, dig n N = dig n M → N % 256 ^ n = M % 256 ^ n := by
  induction n with
  | zero => intro N M _; rw [Nat.pow_zero]; omega
  | succ n ih =>
    intro N M h
    simp only [dig, List.cons.injEq] at h
    obtain ⟨h1, h2⟩ := h
    have h3 := ih _ _ h2
    have e : 256 ^ (n + 1) = 256 * 256 ^ n := by rw [Nat.pow_succ, Nat.mul_comm]
    rw [e, Nat.mod_mul, Nat.mod_mul, h1, h3]

def strEq (n N m M : Nat) : Bool := bif' (Nat.beq n m) (Nat.beq (Nat.mod N (Nat.pow 256 n)) (Nat.mod M (Nat.pow 256 n))) false

theorem map_ofNat_inj : ∀ {a b : List Nat}, (∀ d ∈ a, d < 256) → (∀ d ∈ b, d < 256) → a.map UInt8.ofNat = b.map UInt8.ofNat → a = b
  | [], [], _, _, _ => rfl
  | [], _ :: _, _, _, h => by cases h
  | _ :: _, [], _, _, h => by cases h
  | x :: a, y :: b, ha, hb, h => by
    simp only [List.map_cons, List.cons.injEq] at h
    obtain ⟨h1, h2⟩ := h
    have e1 := congrArg UInt8.toNat h1
    have hx := ha x (by simp)
    have hy := hb y (by simp)
    simp [Nat.mod_eq_of_lt hx, Nat.mod_eq_of_lt hy] at e1
    rw [e1, map_ofNat_inj (fun d hd => ha d (by simp [hd])) (fun d hd => hb d (by simp [hd])) h2]

theorem strEq_iff (n N m M : Nat) : strEq n N m M = true ↔ digS n N = digS m M := by
  unfold strEq
  constructor
  · intro h
    cases hb : Nat.beq n m with
    | false => rw [hb] at h; cases h
    | true =>
      rw [hb] at h
      have e := beqT hb
      subst e
      have h2 : N % 256 ^ n = M % 256 ^ n := beqT h
      rw [← digS_mod, h2, digS_mod]
  · intro h
    have hs := congrArg ByteArray.size h
    rw [digS_size, digS_size] at hs
    subst hs
    rw [Nat.beq_refl]
    have hd := congrArg (fun b : ByteArray => b.data.toList) h
    have := dig_inj n N M (map_ofNat_inj (dig_lt n N) (dig_lt n M) hd)
    show Nat.beq (N % 256 ^ n) (M % 256 ^ n) = true
    rw [this]; exact Nat.beq_refl _

theorem bytes_beq (a b : ByteArray) : (a == b) = true ↔ a = b := by
  cases a; cases b
  rename_i x y
  show (x == y) = true ↔ _
  rw [beq_iff_eq]
  constructor
  · intro h; rw [h]
  · intro h; cases h; rfl

theorem strEq_eq (n N m M : Nat) : strEq n N m M = (digS n N == digS m M) := by
  rw [Bool.eq_iff_iff, strEq_iff, bytes_beq]

def kidx : IntKind → Nat
  | .i8 => 0 | .i16 => 1 | .i32 => 2 | .i64 => 3 | .u8 => 4 | .u16 => 5 | .u32 => 6 | .u64 => 7

theorem kidx_inj {a b : IntKind} (h : Nat.beq (kidx a) (kidx b) = true) : a = b := by
  cases a <;> cases b <;> first | rfl | cases h

def beqB (a b : Bool) : Bool := Bool.rec (bnot b) b a
theorem beqB_eq (a b : Bool) : beqB a b = (a == b) := by cases a <;> cases b <;> rfl

def sameA (d : TypeDesc) (x y : AV) : Option Bool :=
  match d with
  | .int _ => match x, y with
    | .int k a, .int k' b => bif' (Nat.beq (kidx k) (kidx k')) (some (ieq a b)) none
    | _, _ => none
  | .string => match x, y with
    | .str n N, .str m M => some (strEq n N m M)
    | _, _ => none
  | .bool => match x, y with
    | .bool a, .bool b => some (beqB a b)
    | _, _ => none
  | _ => none

theorem sameA_ok {d : TypeDesc} {x y : AV} {b : Bool} {xv yv : Value} (hx : VR env ι x xv) (hy : VR env ι y yv) (hs : sameA d x y = some b) :
    Instr.sameNow d xv yv = some b ∧ (b = true → xv = yv ∧ Instr.sameBits 10000 xv yv = true) := by
  cases d <;> first | (cases hs; done) | skip
  · cases hx <;> first | (cases hs; done) | skip
    cases hy <;> first | (cases hs; done) | skip
    cases hs
    rw [beqB_eq]
    refine ⟨rfl, fun h => ?_⟩
    have := eq_of_beq h
    subst this
    exact ⟨rfl, by simp [Instr.sameBits]⟩
  · cases hx <;> first | (cases hs; done) | skip
    cases hy <;> first | (cases hs; done) | skip
    rename_i k a k' b
    rcases bif'_some hs with ⟨h1, h2⟩ | ⟨_, h2⟩
    case inr => cases h2
    have := kidx_inj h1
    subst this
    cases h2
    rw [ieq_eq]
    refine ⟨by simp [Instr.sameNow], fun h => ?_⟩
    have := eq_of_beq h
    subst this
    exact ⟨rfl, by simp [Instr.sameBits]⟩
  · cases hx <;> first | (cases hs; done) | skip
    cases hy <;> first | (cases hs; done) | skip
    cases hs
    rw [strEq_eq]
    refine ⟨rfl, fun h => ?_⟩
    have := (bytes_beq _ _).1 h
    rw [this]
    exact ⟨rfl, (bytes_beq _ _).2 rfl⟩

def findA (d : TypeDesc) (k : AV) (es : List AEnt) : Nat → Option (Option (Nat × AV)) :=
  List.rec (fun _ => some none) (fun e _ ih i => obind (sameA d k e.key) fun b => bif' b (some (some (i, e.val))) (ih (Nat.succ i))) es

theorem findA_ok {d : TypeDesc} {k : AV} {kv : Value} (hk : VR env ι k kv) : ∀ {as : List AEnt} {es : List MapEntry} {i : Nat} {r : Option (Nat × AV)}, EsR env ι as es → findA d k as i = some r →
    (r = none ∧ Instr.findNow d kv es i = some none) ∨
    ∃ j v x a, r = some (i + j, v) ∧ Instr.findNow d kv es i = some (some (i + j, x)) ∧ VR env ι v x ∧ es[j]? = some a ∧ a.key = kv ∧ Instr.sameBits 10000 a.key kv = true
  | _, _, i, r, .nil, hf => by cases hf; exact .inl ⟨rfl, rfl⟩
  | _, _, i, r, .cons a e as es he hr, hf => by
    obtain ⟨b, hb, h1⟩ := obind_eq (f := fun b => bif' b (some (some (i, a.val))) (findA d k as (Nat.succ i))) hf
    obtain ⟨s1, s2⟩ := sameA_ok hk he.key hb
    rcases bif'_some h1 with ⟨rfl, h2⟩ | ⟨rfl, h2⟩
    · cases h2
      obtain ⟨e1, e2⟩ := s2 rfl
      refine .inr ⟨0, a.val, e.val, e, rfl, by simp [Instr.findNow, s1], he.val, rfl, e1.symm, ?_⟩
      rw [← e1] at e2 ⊢; exact e2
    · rcases findA_ok hk hr h2 with ⟨e1, e2⟩ | ⟨j, v, x, a', e1, e2, e3, e4, e5, e6⟩
      · exact .inl ⟨e1, by simp [Instr.findNow, s1, e2]⟩
      · refine .inr ⟨j + 1, v, x, a', ?_, ?_, e3, e4, e5, e6⟩
        · rw [e1, Nat.succ_eq_add_one, Nat.add_assoc, Nat.add_comm 1 j]
        · simp only [Instr.findNow, s1]
          have : i + 1 + j = i + (j + 1) := by omega
          rw [← this]; exact e2

/-- keys that are compared at once -/
def plainKey : TypeDesc → Bool
  | .int _ => true
  | .string => true
  | .bool => true
  | _ => false

theorem checkKey_succ {t : TypeId} {d : TypeDesc} (hd : P.underlying t = some d) (hp : plainKey d = true) (b : Bool) (n : Nat) (v : Value) (w : World) : (Instr.checkKey b (n + 1) t v).run P w = .ok () w := by
  cases d <;> first | (cases hp; done) | skip
  all_goals simp only [Instr.checkKey, Sem.run_bind, run_underlying hd, Result.andThen_ok, Sem.run_pure]

theorem checkKey_ok {t : TypeId} {d : TypeDesc} (hd : P.underlying t = some d) (hp : plainKey d = true) (b : Bool) (v : Value) (w : World) : (Instr.checkKey b 10000 t v).run P w = .ok () w :=
  checkKey_succ hd hp b 9999 v w

theorem findKey_ok {t : TypeId} {d : TypeDesc} (hd : P.underlying t = some d) {kv : Value} {es : List MapEntry} {r : Option (Nat × Value)} (hf : Instr.findNow d kv es 0 = some r) (w : World) :
    (Instr.findKey t kv es).run P w = .ok r w := by
  simp [Instr.findKey, run_underlying hd, hf]

end
end Go.Ab
