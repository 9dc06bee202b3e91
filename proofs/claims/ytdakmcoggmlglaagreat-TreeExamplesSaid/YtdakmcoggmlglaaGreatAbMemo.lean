/- Calls of functions that look at nothing but their arguments: reckoned once for each. -/
import Derived.Test.YtdakmcoggmlglaaGreatAbChunk
set_option linter.all false
set_option linter.unusedVariables false
namespace Go.Ab
open Go.RowKit
noncomputable section

variable {P : Program} {env : Nat → Value} {W : Base} {w w' : World} {ι ι' : Inj} {h : AHeap}

/-- no place of memory in it -/
def flatV (v : AV) : Bool :=
  AV.rec (motive_1 := fun _ => Bool) (motive_2 := fun _ => Bool) (motive_3 := fun _ => Bool) (motive_4 := fun _ => Bool)
    (fun _ => true) (fun _ _ => true) (fun _ _ => true) true (fun _ _ => false) true (fun _ _ _ _ => false) (fun _ _ _ _ => false) true (fun _ => false) (fun _ _ _ _ _ => false) (fun _ _ _ _ _ => false) (fun _ => false) true
    (fun _ _ ih => ih) true (fun _ ih => ih) (fun _ ih => ih) (fun _ => false) (fun _ ih => ih) (fun _ _ => true) true (fun _ _ a b => andB a b) true (fun _ _ a b => andB a b) v
def flatS (v : Seg) : Bool :=
  Seg.rec (motive_1 := fun _ => Bool) (motive_2 := fun _ => Bool) (motive_3 := fun _ => Bool) (motive_4 := fun _ => Bool)
    (fun _ => true) (fun _ _ => true) (fun _ _ => true) true (fun _ _ => false) true (fun _ _ _ _ => false) (fun _ _ _ _ => false) true (fun _ => false) (fun _ _ _ _ _ => false) (fun _ _ _ _ _ => false) (fun _ => false) true
    (fun _ _ ih => ih) true (fun _ ih => ih) (fun _ ih => ih) (fun _ => false) (fun _ ih => ih) (fun _ _ => true) true (fun _ _ a b => andB a b) true (fun _ _ a b => andB a b) v
def flatL (v : List AV) : Bool :=
  AV.rec_1 (motive_1 := fun _ => Bool) (motive_2 := fun _ => Bool) (motive_3 := fun _ => Bool) (motive_4 := fun _ => Bool)
    (fun _ => true) (fun _ _ => true) (fun _ _ => true) true (fun _ _ => false) true (fun _ _ _ _ => false) (fun _ _ _ _ => false) true (fun _ => false) (fun _ _ _ _ _ => false) (fun _ _ _ _ _ => false) (fun _ => false) true
    (fun _ _ ih => ih) true (fun _ ih => ih) (fun _ ih => ih) (fun _ => false) (fun _ ih => ih) (fun _ _ => true) true (fun _ _ a b => andB a b) true (fun _ _ a b => andB a b) v
def flatR (v : List Seg) : Bool :=
  AV.rec_2 (motive_1 := fun _ => Bool) (motive_2 := fun _ => Bool) (motive_3 := fun _ => Bool) (motive_4 := fun _ => Bool)
    (fun _ => true) (fun _ _ => true) (fun _ _ => true) true (fun _ _ => false) true (fun _ _ _ _ => false) (fun _ _ _ _ => false) true (fun _ => false) (fun _ _ _ _ _ => false) (fun _ _ _ _ _ => false) (fun _ => false) true
    (fun _ _ ih => ih) true (fun _ ih => ih) (fun _ ih => ih) (fun _ => false) (fun _ ih => ih) (fun _ _ => true) true (fun _ _ a b => andB a b) true (fun _ _ a b => andB a b) v

mutual
theorem VR.flat : ∀ {v : AV} {x : Value}, VR env ι v x → flatV v = true → VR env ι' v x
  | _, _, .bool b, _ => .bool b
  | _, _, .int k n, _ => .int k n
  | _, _, .str n N, _ => .str n N
  | _, _, .nilp, _ => .nilp
  | _, _, .ptr b off c s e, h => by cases h
  | _, _, .nils, _ => .nils
  | _, _, .slice b off len cap c s e, h => by cases h
  | _, _, .sliceu b off len es c s cap e a d, h => by cases h
  | _, _, .nilm, _ => .nilm
  | _, _, .map b c s e, h => by cases h
  | _, _, .fn f vs us xs ys a d, h => by cases h
  | _, _, .meth f vs us xs ys a d, h => by cases h
  | _, _, .yld b c s e, h => by cases h
  | _, _, .nilf, _ => .nilf
  | _, _, .iface t v x e, h => .iface t v x (VR.flat e h)
  | _, _, .nili, _ => .nili
  | _, _, .agg r xs e, h => .agg r xs (RR.flat e h)
  | _, _, .tup vs xs e, h => .tup vs xs (LR.flat e h)
  | _, _, .opq i e, h => by cases h
theorem RR.flat : ∀ {r : List Seg} {xs : List Value}, RR env ι r xs → flatR r = true → RR env ι' r xs
  | _, _, .nil, _ => .nil
  | _, _, .one v x r xs a b c, h => .one v x r xs (VR.flat a (andB_true (a := flatV v) (b := flatR r) h).1) b (RR.flat c (andB_true (a := flatV v) (b := flatR r) h).2)
  | _, _, .bytes n N r xs c, h => .bytes n N r xs (RR.flat c (andB_true (a := true) (b := flatR r) h).2)
theorem LR.flat : ∀ {r : List AV} {xs : List Value}, LR env ι r xs → flatL r = true → LR env ι' r xs
  | _, _, .nil, _ => .nil
  | _, _, .cons v x r xs a c, h => .cons v x r xs (VR.flat a (andB_true (a := flatV v) (b := flatL r) h).1) (LR.flat c (andB_true (a := flatV v) (b := flatL r) h).2)
end

theorem HR.below (hr : HR env W ι h w) (hb : Below w.heap.size w w') : HR env W ι h w' := by
  have ho := hr.old
  refine ⟨⟨hb.os.trans ho.os, hb.tape.trans ho.tape, hb.output.trans ho.output, Nat.le_trans ho.size hb.size, fun k hk => (hb.block k (Nat.lt_of_lt_of_le hk ho.size)).trans (ho.block k hk)⟩, hr.fresh, ?_, hr.inj, ?_, hr.ph⟩
  · intro b c s e
    have := hr.rng b c s e
    exact ⟨this.1, Nat.lt_of_lt_of_le this.2 hb.size⟩
  · intro b o c s e1 e2
    obtain ⟨x, a, d⟩ := hr.obj b o c s e1 e2
    exact ⟨x, by rw [hb.block c (hr.rng b c s e2).2]; exact a, d⟩

structure Memo where
  f : FuncId
  args : List AV
  r : AV

def MemoOk (P : Program) (m : Memo) : Prop :=
  ∀ (env : Nat → Value) (W : Base) (ι : Inj) (w : World) (xs : List Value) (h : AHeap), LR env ι m.args xs → HR env W ι h w → Calls P m.f xs.toArray w (RetOk env W ι m.r h)

def checkMemo (P : Program) (L : Nat) (J : JobF) (m : Memo) : Bool := andB (flatL m.args) (andB (flatV m.r) (checkEnd P L J m.f m.args m.r))

theorem memo_of_run {L : Nat} {J : JobF} (hJ : JOk P J) {m : Memo} (hc : checkMemo P L J m = true) : MemoOk P m := by
  obtain ⟨h1, h2⟩ := andB_true hc
  obtain ⟨h3, h4⟩ := andB_true h2
  intro env W ι w xs h hl hr
  refine (end_of_run hJ h4 env w xs (LR.flat hl h1)).mono ?_
  rintro e w' ⟨ι', x, g1, g2, g3⟩
  exact ⟨ι, x, g1, .refl ι, VR.flat g2 h3, hr.below g3⟩

/-- the function, what is known of it ahead -/
def memoF (f : FuncId) (base : FB) (ms : List Memo) : FB :=
  List.rec base (fun m _ ih => Bool.rec ih (FB.rec (fun k => ⟨fun J args h => Bool.rec (motive := fun _ => JobF → List AV → AHeap → Option (AV × AHeap)) k (fun _ _ h => some (m.r, h)) (sameL m.args args) J args h⟩) ih) (Nat.beq m.f f)) ms

theorem memoF_run {f : FuncId} {base : FB} {J : JobF} {args : List AV} {h : AHeap} {r : AV} {h' : AHeap} : ∀ {ms : List Memo}, (memoF f base ms).run J args h = some (r, h') →
    (base.run J args h = some (r, h')) ∨ ∃ m ∈ ms, m.f = f ∧ m.args = args ∧ m.r = r ∧ h = h'
  | [], e => .inl e
  | m :: ms, e => by
    have e' : FB.run (Bool.rec (motive := fun _ => FB) (memoF f base ms) (FB.rec (fun k => ⟨fun J args h => Bool.rec (motive := fun _ => JobF → List AV → AHeap → Option (AV × AHeap)) k (fun _ _ h => some (m.r, h)) (sameL m.args args) J args h⟩) (memoF f base ms)) (Nat.beq m.f f)) J args h = some (r, h') := e
    have rest : (memoF f base ms).run J args h = some (r, h') → (base.run J args h = some (r, h')) ∨ ∃ m' ∈ m :: ms, m'.f = f ∧ m'.args = args ∧ m'.r = r ∧ h = h' := by
      intro h1
      rcases memoF_run h1 with h2 | ⟨m', hm, h2⟩
      · exact .inl h2
      · exact .inr ⟨m', List.mem_cons_of_mem _ hm, h2⟩
    cases hf : Nat.beq m.f f with
    | false => rw [hf] at e'; exact rest e'
    | true =>
      rw [hf] at e'
      cases hk : memoF f base ms with
      | mk k =>
        rw [hk] at e'
        have e2 : Bool.rec (motive := fun _ => JobF → List AV → AHeap → Option (AV × AHeap)) k (fun _ _ h => some (m.r, h)) (sameL m.args args) J args h = some (r, h') := e'
        cases hs : sameL m.args args with
        | false => rw [hs] at e2; exact rest (by rw [hk]; exact e2)
        | true =>
          rw [hs] at e2
          cases e2
          exact .inr ⟨m, List.mem_cons_self .., beqT hf, sameL_eq _ _ hs, rfl, rfl⟩

/-- n: how deep calls may go -/
def jobM (P : Program) (L : Nat) (ms : List Memo) (n : Nat) : JobF :=
  Nat.rec (fun _ _ _ => none) (fun _ ih j => Job.rec (motive := fun _ => List AV → AHeap → Option (AV × AHeap)) (fun f => (memoF f (fnF P L f) ms).run ih) (callD P ih L) (roundA P ih L) j) n

theorem jobM_ok {L : Nat} {ms : List Memo} (hm : ∀ m ∈ ms, MemoOk P m) : ∀ n, JOk P (jobM P L ms n)
  | 0 => fun j args h r h' he => by cases he
  | n + 1 => by
    have ih := jobM_ok (L := L) hm n
    have hC := evC_ok ih L
    intro j args h r h' he env W ι w xs hl hr
    cases j with
    | fn f =>
      rcases memoF_run (f := f) (base := fnF P L f) (J := jobM P L ms n) he with h1 | ⟨m, hmem, rfl, ea, er, eh⟩
      · rw [fnF_eq] at h1
        exact callFn_ok ih hC h1 hl hr
      · subst ea er eh
        exact hm m hmem env W ι w xs h hl hr
    | dfn f => exact fun F n hF => callD_ok hC he hl hr hF n
    | rnd b => exact fun l sz hb => roundA_ok hC he hl hr hb

/-- all of them -/
def checkMemos (P : Program) (L : Nat) (J : JobF) (ms : List Memo) : Bool := List.rec true (fun m _ ih => andB (checkMemo P L J m) ih) ms
theorem memos_of_run {L : Nat} {J : JobF} (hJ : JOk P J) : ∀ {ms : List Memo}, checkMemos P L J ms = true → ∀ m ∈ ms, MemoOk P m
  | [], _, m, hm => by cases hm
  | m' :: ms, hc, m, hm => by
    obtain ⟨h1, h2⟩ := andB_true (a := checkMemo P L J m') (b := checkMemos P L J ms) hc
    cases hm with
    | head => exact memo_of_run hJ h1
    | tail _ hm => exact memos_of_run hJ h2 m hm
theorem memos_join {a b : List Memo} (ha : ∀ m ∈ a, MemoOk P m) (hb : ∀ m ∈ b, MemoOk P m) : ∀ m ∈ a ++ b, MemoOk P m := by
  intro m hm
  rcases List.mem_append.1 hm with h | h
  · exact ha m h
  · exact hb m h

end
end Go.Ab
