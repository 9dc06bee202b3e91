/- '==' by type. -/
import Derived.Test.YtdakmcoggmlglaaGreatAbMap
import Derived.Laws.StructEq
set_option linter.all false
namespace Go.Ab
open Go.RowKit
noncomputable section

variable {P : Program} {env : Nat → Value} {W : Base} {w : World} {ι : Inj} {h h' : AHeap}

/-- one cell or an aggregate, compared by type; f: how deep -/
def eqElems (cmp : AV → AV → Option Bool) (P : Program) (elem : TypeId) (n : Nat) (r q : Row) (k : Nat) : Nat → Option Bool :=
  Nat.rec (fun _ => some true) (fun _ ih i => obind (partA P elem r (Nat.mul i n)) fun x => obind (partA P elem q (Nat.mul i n)) fun y => obind (cmp x y) fun b => bif' b (ih (Nat.succ i)) (some false)) k

def eqFields (cmp : TypeId → AV → AV → Option Bool) (P : Program) (r q : Row) (fs : List Field) : Option Bool :=
  List.rec (some true) (fun f _ ih => bif' (decide (f.name ≠ "_")) (obind (partA P f.type r f.offset) fun x => obind (partA P f.type q f.offset) fun y => obind (cmp f.type x y) fun b => bif' b ih (some false)) ih) fs

/-- a row of n bytes: their number -/
def allBytes (n : Nat) (r : Row) : Option Nat :=
  match r with
  | [.bytes m N] => bif' (Nat.beq m n) (some (Nat.mod N (Nat.pow 256 n))) none
  | _ => none

def isU8 (P : Program) (t : TypeId) : Bool :=
  match P.underlying t with
  | some (.int .u8) => true
  | _ => false

def eqT (P : Program) (f : Nat) : TypeId → AV → AV → Option Bool :=
  Nat.rec (fun _ _ _ => none) (fun _ ih t x y => obind (P.underlying t) fun d => match d with
    | .bool => match x, y with
      | .bool a, .bool b => some (beqB a b)
      | _, _ => none
    | .int _ => match x, y with
      | .int k a, .int k' b => bif' (Nat.beq (kidx k) (kidx k')) (some (ieq a b)) none
      | _, _ => none
    | .string => match x, y with
      | .str n N, .str m M => some (strEq n N m M)
      | _, _ => none
    | .struct fs => match x, y with
      | .agg r, .agg q => bif' (P.stoodInHeld t) none (eqFields ih P r q fs.toList)
      | _, _ => none
    | .array len elem => match x, y with
      | .agg r, .agg q => bif' (isU8 P elem) (obind (szOf P elem) fun s => bif' (Nat.beq s 1) (obind (allBytes len r) fun N => obind (allBytes len q) fun M => some (Nat.beq N M)) none)
          (obind (szOf P elem) fun n => eqElems (ih elem) P elem n r q len 0)
      | _, _ => none
    | _ => none) f

theorem eqFields_ok {cmp : TypeId → AV → AV → Option Bool} {d : Nat} {r q : Row} {xs ys : List Value} (hr : RR env ι r xs) (hq : RR env ι q ys) (w : World)
    (hc : ∀ t x y b xv yv, VR env ι x xv → VR env ι y yv → cmp t x y = some b → (Op.equalIn d t xv yv).run P w = .ok b w) :
    ∀ {fs : List Field} {b : Bool}, eqFields cmp P r q fs = some b → (Op.eqFields d xs.toArray ys.toArray fs).run P w = .ok b w
  | [], b, h => by cases h; rfl
  | f :: fs, b, h => by
    simp only [Op.eqFields]
    rcases bif'_some h with ⟨h0, h1⟩ | ⟨h0, h1⟩
    · obtain ⟨x, hx, h2⟩ := obind_eq h1
      obtain ⟨y, hy, h3⟩ := obind_eq h2
      obtain ⟨c, hc', h4⟩ := obind_eq h3
      obtain ⟨xv, e1, v1⟩ := partA_ok hr hx w
      obtain ⟨yv, e2, v2⟩ := partA_ok hq hy w
      have e3 := hc f.type x y c xv yv v1 v2 hc'
      have hn : f.name ≠ "_" := of_decide_eq_true h0
      rw [if_pos hn]
      simp only [Sem.run_bind, e1, e2, e3, Result.andThen_ok]
      rcases bif'_some h4 with ⟨rfl, h5⟩ | ⟨rfl, h5⟩
      · simp only [Bool.not_true, Bool.false_eq_true, if_false]; exact eqFields_ok hr hq w hc h5
      · cases h5; rfl
    · have hn : ¬ f.name ≠ "_" := of_decide_eq_false h0
      rw [if_neg hn]
      exact eqFields_ok hr hq w hc h1

theorem eqElems_ok {cmp : AV → AV → Option Bool} {d n : Nat} {elem : TypeId} {r q : Row} {xs ys : List Value} (hr : RR env ι r xs) (hq : RR env ι q ys) (w : World)
    (hc : ∀ x y b xv yv, VR env ι x xv → VR env ι y yv → cmp x y = some b → (Op.equalIn d elem xv yv).run P w = .ok b w) :
    ∀ {k i : Nat} {b : Bool}, eqElems cmp P elem n r q k i = some b →
      ((forIn (List.range' i k) (none, ()) fun i _ => (do
        if !(← Op.equalIn d elem (← part elem xs.toArray (i * n)) (← part elem ys.toArray (i * n))) then return ForInStep.done (some false, ())
        pure (ForInStep.yield (none, ())) : Sem (ForInStep (Option Bool × Unit)))) : Sem (Option Bool × Unit)).run P w = .ok (bif' b none (some false), ()) w
  | 0, i, b, h => by cases h; rfl
  | k + 1, i, b, h => by
    obtain ⟨x, hx, h2⟩ := obind_eq h
    obtain ⟨y, hy, h3⟩ := obind_eq h2
    obtain ⟨c, hc', h4⟩ := obind_eq h3
    obtain ⟨xv, e1, v1⟩ := partA_ok hr hx w
    obtain ⟨yv, e2, v2⟩ := partA_ok hq hy w
    have e3 := hc x y c xv yv v1 v2 hc'
    have e1' : (part elem xs.toArray (i * n)).run P w = .ok xv w := e1
    have e2' : (part elem ys.toArray (i * n)).run P w = .ok yv w := e2
    rw [List.range'_succ, List.forIn_cons]
    simp only [Sem.run_bind, e1', e2', e3, Result.andThen_ok]
    rcases bif'_some h4 with ⟨rfl, h5⟩ | ⟨rfl, h5⟩
    · simp only [Bool.not_true, Bool.false_eq_true, if_false, Sem.run_pure, Result.andThen_ok]
      exact eqElems_ok hr hq w hc h5
    · cases h5; rfl

/-- the same loop over bytes -/
theorem bytes_loop {d : Nat} {elem : TypeId} (hu : isU8 P elem = true) (hd : d ≠ 0) (a b : List Nat) (hab : a.length = b.length) (w : World) :
    ∀ {k i : Nat}, i + k = a.length →
      ((forIn (List.range' i k) (none, ()) fun i _ => (do
        if !(← Op.equalIn d elem (← part elem (a.map fun (d : Nat) => Value.int .u8 (d : Int)).toArray (i * 1)) (← part elem (b.map fun (d : Nat) => Value.int .u8 (d : Int)).toArray (i * 1))) then return ForInStep.done (some false, ())
        pure (ForInStep.yield (none, ())) : Sem (ForInStep (Option Bool × Unit)))) : Sem (Option Bool × Unit)).run P w = .ok (bif' (decide (a.drop i = b.drop i)) none (some false), ()) w
  | 0, i, h => by
    rw [List.drop_eq_nil_of_le (by omega), List.drop_eq_nil_of_le (by omega)]; simp [bif']
  | k + 1, i, h => by
    obtain ⟨d, rfl⟩ : ∃ e, d = e + 1 := ⟨d - 1, by omega⟩
    have hund : P.underlying elem = some (.int .u8) := by
      unfold isU8 at hu
      split at hu
      · assumption
      · cases hu
    have hag : aggOf P elem = some false := by simp [aggOf, hund, omap, isAggD]
    have hia : i < a.length := by omega
    have hib : i < b.length := by omega
    have e1 : ∀ (l : List Nat) (hl : i < l.length), (part elem (l.map fun (d : Nat) => Value.int .u8 (d : Int)).toArray (i * 1)).run P w = .ok (.int .u8 ((l[i] : Nat) : Int)) w := by
      intro l hl
      simp [part, run_isAgg hag, hl]
    have e3 : (Op.equalIn (d + 1) elem (.int .u8 ((a[i] : Nat) : Int)) (.int .u8 ((b[i] : Nat) : Int))).run P w = .ok (((a[i] : Nat) : Int) == ((b[i] : Nat) : Int)) w :=
      run_equalIn_int w d elem .u8 .u8 _ _ hund
    rw [List.range'_succ, List.forIn_cons]
    simp only [Sem.run_bind, e1 a hia, e1 b hib, e3, Result.andThen_ok]
    rw [List.drop_eq_getElem_cons hia, List.drop_eq_getElem_cons hib]
    by_cases hab' : a[i] = b[i]
    · have : (((a[i] : Nat) : Int) == ((b[i] : Nat) : Int)) = true := by rw [hab']; simp
      simp only [this, Bool.not_true, Bool.false_eq_true, if_false, Sem.run_pure, Result.andThen_ok]
      rw [bytes_loop hu hd a b hab w (k := k) (i := i + 1) (by omega)]
      have hiff : (decide (a[i] :: a.drop (i + 1) = b[i] :: b.drop (i + 1))) = decide (a.drop (i + 1) = b.drop (i + 1)) := by
        rw [decide_eq_decide, List.cons.injEq]; exact ⟨fun h => h.2, fun h => ⟨hab', h⟩⟩
      rw [hiff]
    · have : (((a[i] : Nat) : Int) == ((b[i] : Nat) : Int)) = false := by simp; omega
      simp only [this, Bool.not_false, if_true, Sem.run_pure, Result.andThen_ok]
      have hiff : (decide (a[i] :: a.drop (i + 1) = b[i] :: b.drop (i + 1))) = false := by
        rw [decide_eq_false_iff_not, List.cons.injEq]; exact fun h => hab' h.1
      rw [hiff]; rfl

theorem allBytes_ok {n N : Nat} {r : Row} {xs : List Value} (hr : RR env ι r xs) (h : allBytes n r = some N) : ∃ M, xs = digV n M ∧ N = M % 256 ^ n := by
  unfold allBytes at h
  split at h
  · rename_i m M
    rcases bif'_some h with ⟨h0, h1⟩ | ⟨_, h1⟩
    case inr => cases h1
    cases h1
    have := beqT h0
    subst this
    cases hr with
    | bytes _ _ _ xs c => cases c; exact ⟨M, by simp, rfl⟩
  · cases h

theorem eqT_ok : ∀ {f : Nat} {t : TypeId} {x y : AV} {b : Bool} {xv yv : Value} {d : Nat}, f < d → VR env ι x xv → VR env ι y yv → eqT P f t x y = some b → ∀ w, (Op.equalIn d t xv yv).run P w = .ok b w
  | 0, t, x, y, b, xv, yv, d, _, _, _, h, w => by cases h
  | f + 1, t, x, y, b, xv, yv, d, hfd, hx, hy, h, w => by
    obtain ⟨d, rfl⟩ : ∃ e, d = e + 1 := ⟨d - 1, by omega⟩
    obtain ⟨dd, hdd, h1⟩ := obind_eq h
    have ih : ∀ t x y b xv yv, VR env ι x xv → VR env ι y yv → eqT P f t x y = some b → (Op.equalIn d t xv yv).run P w = .ok b w :=
      fun t x y b xv yv hx hy hh => eqT_ok (by omega) hx hy hh w
    cases dd <;> first | (cases h1; done) | skip
    · cases hx <;> first | (cases h1; done) | skip
      cases hy <;> first | (cases h1; done) | skip
      cases h1
      rw [beqB_eq]; simp [Op.equalIn, run_underlying hdd]
    · cases hx <;> first | (cases h1; done) | skip
      cases hy <;> first | (cases h1; done) | skip
      rename_i k a k' b'
      rcases bif'_some h1 with ⟨h2, h3⟩ | ⟨_, h3⟩
      case inr => cases h3
      have := kidx_inj h2
      subst this
      cases h3
      rw [ieq_eq]; simp [Op.equalIn, run_underlying hdd]
    · cases hx <;> first | (cases h1; done) | skip
      cases hy <;> first | (cases h1; done) | skip
      cases h1
      rw [strEq_eq]; simp [Op.equalIn, run_underlying hdd]
    · rename_i len elem
      cases hx <;> first | (cases h1; done) | skip
      cases hy <;> first | (cases h1; done) | skip
      rename_i r xs hr q ys hq
      rcases bif'_some h1 with ⟨hu, h2⟩ | ⟨hu, h2⟩
      · obtain ⟨s, hs, h3⟩ := obind_eq h2
        rcases bif'_some h3 with ⟨h0, h4⟩ | ⟨_, h4⟩
        case inr => cases h4
        have hs1 : s = 1 := beqT h0
        subst hs1
        obtain ⟨N, hN, h5⟩ := obind_eq h4
        obtain ⟨M, hM, h6⟩ := obind_eq h5
        obtain ⟨N', e1, e2⟩ := allBytes_ok hr hN
        obtain ⟨M', e3, e4⟩ := allBytes_ok hq hM
        have hb : b = Nat.beq N M := by cases h6; rfl
        have hlp := bytes_loop hu (by omega : d ≠ 0) (dig len N') (dig len M') (by simp) w (k := len) (i := 0) (by simp)
        simp only [List.drop_zero] at hlp
        have hdec : decide (dig len N' = dig len M') = b := by
          rw [hb, Bool.eq_iff_iff, decide_eq_true_eq, beq_iff', e2, e4]
          exact ⟨fun h => dig_inj len N' M' h, fun h => by rw [← dig_mod, h, dig_mod]⟩
        rw [hdec] at hlp
        simp only [Op.equalIn, Sem.run_bind, run_underlying hdd, Result.andThen_ok, run_sizeOf hs, Std.Legacy.Range.forIn_eq_forIn_range', Std.Legacy.Range.size, Nat.sub_zero, Nat.add_sub_cancel, Nat.div_one]
        rw [e1, e3]
        refine (congrArg (fun r => Result.andThen r _) hlp).trans ?_
        cases b <;> rfl
      · obtain ⟨n, hn, h3⟩ := obind_eq h2
        have hlp := eqElems_ok (n := n) (elem := elem) (d := d) hr hq w (fun x y b xv yv hx hy hh => ih elem x y b xv yv hx hy hh) h3
        simp only [Op.equalIn, Sem.run_bind, run_underlying hdd, Result.andThen_ok, run_sizeOf hn, Std.Legacy.Range.forIn_eq_forIn_range', Std.Legacy.Range.size, Nat.sub_zero, Nat.add_sub_cancel, Nat.div_one]
        refine (congrArg (fun r => Result.andThen r _) hlp).trans ?_
        cases b <;> rfl
    · rename_i fs
      cases hx <;> first | (cases h1; done) | skip
      cases hy <;> first | (cases h1; done) | skip
      rename_i r xs hr q ys hq
      rcases bif'_some h1 with ⟨_, h2⟩ | ⟨hst, h2⟩
      case inl => cases h2
      have hf := eqFields_ok (d := d) hr hq w (fun t x y b xv yv hx hy hh => ih t x y b xv yv hx hy hh) h2
      have hfs : P.fieldsOf t = fs := by simp [Program.fieldsOf, hdd]
      rw [run_equalIn_struct w d t _ _ (by rw [hfs]; exact hdd) hst, hfs]
      exact hf

end
end Go.Ab
