/- Operations that ask nothing of memory, that only read it, that only make a block: what may be carried out at another time. -/
import Derived.Test.YtdakmcoggmlglaaGreatAbPlan
import Derived.Test.YtdakmcoggmlglaaGreatAbCode
set_option linter.all false
namespace Go.Ab
open Go.RowKit
noncomputable section

variable {P : Program} {env : Nat → Value} {W : Base} {w : World} {ι : Inj} {h h' : AHeap} {F : Fence}

theorem tmpsOf_eq (s : ASt) : tmpsOf s = s.t := by cases s; rfl
theorem roundOf_eq (s : ASt) : roundOf s = s.round := by cases s; rfl

theorem stay_val {x : Option AV} {n : AN} (he : stay h x = some (n, h')) : h' = h ∧ ∃ v, n = .val v ∧ ∀ h2, stay h2 x = some (n, h2) := by
  obtain ⟨v, rfl, rfl, rfl⟩ := stay_some he
  exact ⟨rfl, _, rfl, fun h2 => rfl⟩

theorem conv_int {a b : TypeId} {v u : AV} {k : IntKind} (hd : P.underlying b = some (.int k)) (he : convA P a b v h = some (u, h')) : h' = h ∧ ∀ h2, convA P a b v h2 = some (u, h2) := by
  obtain ⟨s, hs, h1⟩ := obind_eq he
  obtain ⟨d, hd', h2⟩ := obind_eq h1
  rw [hd] at hd'; cases hd'
  cases v <;> first | (cases h2; done) | skip
  cases h2
  refine ⟨rfl, fun h2 => ?_⟩
  simp only [convA, hs, hd, obind]

theorem conv_str {a b : TypeId} {v u : AV} (hd : P.underlying b = some .string) (he : convA P a b v h = some (u, h')) : h' = h := by
  obtain ⟨s, hs, h1⟩ := obind_eq he
  obtain ⟨d, hd', h2⟩ := obind_eq h1
  rw [hd] at hd'; cases hd'
  cases v
  case str n N => cases h2; rfl
  all_goals
    cases s <;> first | (cases h2; done) | skip
    rcases bif'_some h2 with ⟨_, h3⟩ | ⟨_, h3⟩
    case inr => cases h3
    obtain ⟨n, hn, h4⟩ := obind_eq h3
    first
      | (cases h4; rfl)
      | (obtain ⟨q, _, h6⟩ := obind_eq h4
         split at h6 <;> first | (cases h6; rfl) | (cases h6))

theorem bin_pure {op : BinOp} {t : TypeId} {x y u : AV} (h1 : op ≠ .eql) (h2 : op ≠ .neq) (he : binA P op t x y h = some u) : ∀ h2, binA P op t x y h2 = some u := by
  intro h3
  have rest : ∀ {x y : AV}, eqRest P op t x y h = some u → False := by
    intro x y hh
    cases op <;> first | (exact h1 rfl) | (exact h2 rfl) | (cases hh)
  unfold binA at he ⊢
  split at he <;> first | exact he | exact (rest he).elim

theorem quiet_any {o : Op} {s : ASt} {n : AN} (hk : Nat.ble (kindOp P o) 1 = true) (he : execT P o s h = some (n, h')) :
    h' = h ∧ (∃ v, n = .val v) ∧ (kindOp P o = 0 → ∀ h2, execT P o s h2 = some (n, h2)) := by
  have st : ∀ {x : Option AV}, stay h x = some (n, h') → h' = h ∧ (∃ v, n = .val v) ∧ ∀ h2, stay h2 x = some (n, h2) := by
    intro x hx; obtain ⟨e, v, hv, hh⟩ := stay_val hx; exact ⟨e, ⟨v, hv⟩, hh⟩
  cases o <;> first | (cases he; done) | (cases hk; done) | skip
  case move x => cases he; exact ⟨rfl, ⟨_, rfl⟩, fun _ h2 => rfl⟩
  case pick c a b =>
    obtain ⟨v, hv, h1⟩ := obind_eq he
    cases v <;> first | (cases h1; done) | skip
    cases h1
    refine ⟨rfl, ⟨_, rfl⟩, fun _ h2 => ?_⟩
    simp only [execT, xPick, hv, obind]
    rfl
  case build t ps =>
    obtain ⟨l, hl, h1⟩ := obind_eq he
    obtain ⟨e, v, hh⟩ := st h1
    exact ⟨e, v, fun _ h2 => by simp only [execT, xBuild, hl, obind]; exact hh h2⟩
  case load t x =>
    obtain ⟨v, hv, h1⟩ := obind_eq he
    obtain ⟨e, v, hh⟩ := st h1
    exact ⟨e, v, fun h0 => by cases h0⟩
  case nilCheck x =>
    obtain ⟨v, hv, h1⟩ := obind_eq he
    obtain ⟨e, v, hh⟩ := st h1
    exact ⟨e, v, fun _ h2 => by simp only [execT, xNilCheck, hv, obind]; exact hh h2⟩
  case binOp op t x y yt =>
    obtain ⟨v, hv, h1⟩ := obind_eq he
    obtain ⟨u, hu, h2⟩ := obind_eq h1
    rcases bif'_some h2 with ⟨hg, h3⟩ | ⟨_, h3⟩
    case inr => cases h3
    obtain ⟨e, vv, hh⟩ := st h3
    refine ⟨e, vv, fun h0 h4 => ?_⟩
    obtain ⟨z, hz, rfl, rfl⟩ := stay_some h3
    have n1 : op ≠ .eql := by rintro rfl; cases h0
    have n2 : op ≠ .neq := by rintro rfl; cases h0
    simp only [execT, xBin, hv, hu, obind, hg, bif'_true]
    rw [bin_pure n1 n2 hz h4]
    rfl
  case unOp op t x =>
    obtain ⟨v, hv, h1⟩ := obind_eq he
    obtain ⟨e, v, hh⟩ := st h1
    exact ⟨e, v, fun _ h2 => by simp only [execT, xUn, hv, obind]; exact hh h2⟩
  case convert a b x =>
    obtain ⟨v, hv, h1⟩ := obind_eq he
    obtain ⟨u, hu, rfl⟩ := both_some h1
    simp only [kindOp] at hk ⊢
    split at hk
    · rename_i k hd
      obtain ⟨e, hh⟩ := conv_int hd hu
      refine ⟨e, ⟨_, rfl⟩, fun _ h2 => ?_⟩
      simp only [execT, xConv, hv, obind, hh h2, both]
    · rename_i hd
      refine ⟨conv_str hd hu, ⟨_, rfl⟩, fun h0 => ?_⟩
      cases h0
    · split at hk <;> cases hk
    · cases hk
  case sliceToArrayPointer t x =>
    obtain ⟨v, hv, h1⟩ := obind_eq he
    obtain ⟨e, v, hh⟩ := st h1
    exact ⟨e, v, fun _ h2 => by simp only [execT, xArrayAt, hv, obind]; exact hh h2⟩
  case makeInterface t x =>
    obtain ⟨v, hv, h1⟩ := obind_eq he
    obtain ⟨e, v, hh⟩ := st h1
    exact ⟨e, v, fun _ h2 => by simp only [execT, xMkIface, hv, obind]; exact hh h2⟩
  case makeFunc f a c =>
    obtain ⟨l, hl, h1⟩ := obind_eq he
    obtain ⟨m, hm, h2⟩ := obind_eq h1
    obtain ⟨e, v, hh⟩ := st h2
    exact ⟨e, v, fun _ h2 => by simp only [execT, xMkFunc, hl, hm, obind]; exact hh h2⟩
  case makeMap t r =>
    cases r <;> cases hk
  case slice t x lo hi mx =>
    obtain ⟨v, hv, h1⟩ := obind_eq he
    obtain ⟨a, ha, h2⟩ := obind_eq h1
    obtain ⟨b, hb, h3⟩ := obind_eq h2
    obtain ⟨c, hc, h4⟩ := obind_eq h3
    obtain ⟨e, v, hh⟩ := st h4
    exact ⟨e, v, fun _ h2 => by simp only [execT, xSlice, hv, ha, hb, hc, obind]; exact hh h2⟩
  case fieldAddr t x f =>
    obtain ⟨v, hv, h1⟩ := obind_eq he
    obtain ⟨e, v, hh⟩ := st h1
    exact ⟨e, v, fun _ h2 => by simp only [execT, xFieldAddr, hv, obind]; exact hh h2⟩
  case field t x f =>
    obtain ⟨v, hv, h1⟩ := obind_eq he
    obtain ⟨e, v, hh⟩ := st h1
    exact ⟨e, v, fun _ h2 => by simp only [execT, xField, hv, obind]; exact hh h2⟩
  case indexAddr t x i =>
    obtain ⟨v, hv, h1⟩ := obind_eq he
    obtain ⟨u, hu, h2⟩ := obind_eq h1
    obtain ⟨e, v, hh⟩ := st h2
    exact ⟨e, v, fun _ h2 => by simp only [execT, xIndexAddr, hv, hu, obind]; exact hh h2⟩
  case index t x i =>
    obtain ⟨v, hv, h1⟩ := obind_eq he
    obtain ⟨u, hu, h2⟩ := obind_eq h1
    obtain ⟨e, v, hh⟩ := st h2
    exact ⟨e, v, fun _ h2 => by simp only [execT, xIndex, hv, hu, obind]; exact hh h2⟩
  case lookup t x i ok =>
    obtain ⟨v, hv, h1⟩ := obind_eq he
    obtain ⟨u, hu, h2⟩ := obind_eq h1
    obtain ⟨e, v, hh⟩ := st h2
    exact ⟨e, v, fun h0 => by cases h0⟩
  case typeAssert x xt a ok =>
    obtain ⟨v, hv, h1⟩ := obind_eq he
    obtain ⟨e, v, hh⟩ := st h1
    exact ⟨e, v, fun _ h2 => by simp only [execT, xAssert, hv, obind]; exact hh h2⟩
  case extract x i =>
    obtain ⟨v, hv, h1⟩ := obind_eq he
    obtain ⟨e, v, hh⟩ := st h1
    exact ⟨e, v, fun _ h2 => by simp only [execT, xExtract, hv, obind]; exact hh h2⟩
  case call c =>
    obtain ⟨callee, args, types⟩ := c
    cases callee <;> first | (cases hk; done) | skip
    rename_i b
    cases b <;> first | (cases hk; done) | skip
    obtain ⟨vs, ha, h2⟩ := obind_eq he
    simp only [builtinA] at h2
    split at h2
    · obtain ⟨v, hv, h3⟩ := obind_eq h2
      cases h3
      exact ⟨rfl, ⟨_, rfl⟩, fun h0 => by cases h0⟩
    · cases h2

/-! what an operation looks at -/

theorem aval_congr {t t' : TT AV} {x : Operand} (hx : ∀ i, x = .tmp i → t'.at i = t.at i) : aval t' x = aval t x := by
  cases x <;> first | rfl | exact hx _ rfl

theorem avals_congr {t t' : TT AV} : ∀ {l : List Operand}, (∀ i, Operand.tmp i ∈ l → t'.at i = t.at i) → avals t' l = avals t l
  | [], _ => rfl
  | x :: l, hx => by
    have h1 : aval t' x = aval t x := aval_congr fun i hi => hx i (by simp [hi])
    have h2 : avals t' l = avals t l := avals_congr fun i hi => hx i (by simp [hi])
    show obind (aval t' x) (fun v => obind (avals t' l) fun vs => some (v :: vs)) = obind (aval t x) (fun v => obind (avals t l) fun vs => some (v :: vs))
    rw [h1, h2]

theorem aparts_congr {t t' : TT AV} : ∀ {l : List (Nat × Operand)}, (∀ i, Operand.tmp i ∈ l.map (·.2) → t'.at i = t.at i) → aparts t' l = aparts t l
  | [], _ => rfl
  | x :: l, hx => by
    have h1 : aval t' x.2 = aval t x.2 := aval_congr fun i hi => hx i (by simp [hi])
    have h2 : aparts t' l = aparts t l := aparts_congr fun i hi => hx i (by simp at hi ⊢; exact .inr hi)
    show obind (aval t' x.2) (fun v => obind (aparts t' l) fun vs => some ((x.1, v) :: vs)) = obind (aval t x.2) (fun v => obind (aparts t l) fun vs => some ((x.1, v) :: vs))
    rw [h1, h2]

theorem oaval_congr {t t' : TT AV} {x : Option Operand} (hx : ∀ i, x = some (.tmp i) → t'.at i = t.at i) : oaval t' x = oaval t x := by
  cases x with
  | none => rfl
  | some x =>
    have h1 : aval t' x = aval t x := aval_congr fun i hi => hx i (by rw [hi])
    simp only [oaval, h1]

theorem callOp_congr {t t' : TT AV} {c : Call} (hx : ∀ i, Operand.tmp i ∈ c.operands → t'.at i = t.at i) : callOpA P t' c h = callOpA P t c h := by
  obtain ⟨callee, args, types⟩ := c
  have ha : avals t' args.toList = avals t args.toList := avals_congr fun i hi => hx i (Array.mem_append.2 (.inr (Array.mem_toList_iff.1 hi)))
  cases callee with
  | value f =>
    have hf : aval t' f = aval t f := aval_congr fun i hi => hx i (by subst hi; simp [Call.operands])
    simp only [callOpA, ha, hf]
  | invoke r name =>
    have hf : aval t' r = aval t r := aval_congr fun i hi => hx i (by subst hi; simp [Call.operands])
    simp only [callOpA, ha, hf]
  | builtin b => simp only [callOpA, ha]

theorem execT_congr {o : Op} {s s' : ASt} (hrd : s'.round = s.round) (hx : ∀ i, Operand.tmp i ∈ o.operands → s'.t.at i = s.t.at i) : execT P o s' h = execT P o s h := by
  have one : ∀ {x : Operand}, x ∈ o.operands → aval s'.t x = aval s.t x := fun hm => aval_congr fun i hi => hx i (hi ▸ hm)
  cases o <;> first | rfl | skip
  case move x => simp only [execT, xMove, tmpsOf_eq, one (x := x) (by simp [Op.operands])]
  case assign x => simp only [execT, xMove, tmpsOf_eq, one (x := x) (by simp [Op.operands])]
  case pick c a b => simp only [execT, xPick, tmpsOf_eq, one (x := c) (by simp [Op.operands]), one (x := a) (by simp [Op.operands]), one (x := b) (by simp [Op.operands])]
  case box e x => simp only [execT, xBox, tmpsOf_eq, one (x := x) (by simp [Op.operands])]
  case build t ps =>
    have := aparts_congr (t := s.t) (t' := s'.t) (l := ps.toList) (fun i hi => hx i (by simp only [Op.operands]; exact List.mem_toArray.2 hi))
    simp only [execT, xBuild, tmpsOf_eq, this]
  case buildSlice t n ps =>
    have := aparts_congr (t := s.t) (t' := s'.t) (l := ps.toList) (fun i hi => hx i (by simp only [Op.operands]; exact List.mem_toArray.2 hi))
    simp only [execT, xBuildSlice, tmpsOf_eq, this]
  case insert t m k x => simp only [execT, xUpdate, tmpsOf_eq, one (x := m) (by simp [Op.operands]), one (x := k) (by simp [Op.operands]), one (x := x) (by simp [Op.operands])]
  case mapUpdate t m k x => simp only [execT, xUpdate, tmpsOf_eq, one (x := m) (by simp [Op.operands]), one (x := k) (by simp [Op.operands]), one (x := x) (by simp [Op.operands])]
  case load t x => simp only [execT, xLoad, tmpsOf_eq, one (x := x) (by simp [Op.operands])]
  case store t a x => simp only [execT, xStore, tmpsOf_eq, one (x := a) (by simp [Op.operands]), one (x := x) (by simp [Op.operands])]
  case nilCheck x => simp only [execT, xNilCheck, tmpsOf_eq, one (x := x) (by simp [Op.operands])]
  case binOp op t x y yt => simp only [execT, xBin, tmpsOf_eq, one (x := x) (by simp [Op.operands]), one (x := y) (by simp [Op.operands])]
  case unOp op t x => simp only [execT, xUn, tmpsOf_eq, one (x := x) (by simp [Op.operands])]
  case convert a b x => simp only [execT, xConv, tmpsOf_eq, one (x := x) (by simp [Op.operands])]
  case sliceToArrayPointer t x => simp only [execT, xArrayAt, tmpsOf_eq, one (x := x) (by simp [Op.operands])]
  case makeInterface t x => simp only [execT, xMkIface, tmpsOf_eq, one (x := x) (by simp [Op.operands])]
  case makeFunc f a c =>
    have h1 := avals_congr (t := s.t) (t' := s'.t) (l := a.toList) (fun i hi => hx i (by
      have hi' : Operand.tmp i ∈ a := Array.mem_toList_iff.1 hi
      simp [Op.operands, hi']))
    have h2 := avals_congr (t := s.t) (t' := s'.t) (l := c.toList) (fun i hi => hx i (by
      have hi' : Operand.tmp i ∈ c := Array.mem_toList_iff.1 hi
      simp [Op.operands, hi']))
    simp only [execT, xMkFunc, tmpsOf_eq, h1, h2]
  case makeSlice t l c => simp only [execT, xMkSlice, tmpsOf_eq, one (x := l) (by simp [Op.operands]), one (x := c) (by simp [Op.operands])]
  case slice t x lo hi mx =>
    have h1 := oaval_congr (t := s.t) (t' := s'.t) (x := lo) (fun i e => hx i (by simp [Op.operands, e]))
    have h2 := oaval_congr (t := s.t) (t' := s'.t) (x := hi) (fun i e => hx i (by simp [Op.operands, e]))
    have h3 := oaval_congr (t := s.t) (t' := s'.t) (x := mx) (fun i e => hx i (by simp [Op.operands, e]))
    simp only [execT, xSlice, tmpsOf_eq, one (x := x) (by simp [Op.operands]), h1, h2, h3]
  case fieldAddr t x f => simp only [execT, xFieldAddr, tmpsOf_eq, one (x := x) (by simp [Op.operands])]
  case field t x f => simp only [execT, xField, tmpsOf_eq, one (x := x) (by simp [Op.operands])]
  case indexAddr t x i => simp only [execT, xIndexAddr, tmpsOf_eq, one (x := x) (by simp [Op.operands]), one (x := i) (by simp [Op.operands])]
  case index t x i => simp only [execT, xIndex, tmpsOf_eq, one (x := x) (by simp [Op.operands]), one (x := i) (by simp [Op.operands])]
  case lookup t x i ok => simp only [execT, xLookup, tmpsOf_eq, one (x := x) (by simp [Op.operands]), one (x := i) (by simp [Op.operands])]
  case typeAssert x xt a ok => simp only [execT, xAssert, tmpsOf_eq, one (x := x) (by simp [Op.operands])]
  case extract x i => simp only [execT, xExtract, tmpsOf_eq, one (x := x) (by simp [Op.operands])]
  case call c => simp only [execT, xCall, tmpsOf_eq]; exact callOp_congr fun i hi => hx i hi
  case defer c =>
    obtain ⟨callee, args, types⟩ := c
    have ha : avals s'.t args.toList = avals s.t args.toList := avals_congr fun i hi => hx i (by
      have hi' : Operand.tmp i ∈ args := Array.mem_toList_iff.1 hi
      simp [Op.operands, Call.operands, hi'])
    cases callee <;> first | (simp only [execT, xDefer, roundOf_eq, hrd]; done) | skip
    rename_i f
    simp only [execT, xDefer, roundOf_eq, hrd, tmpsOf_eq, ha, one (x := f) (by simp [Op.operands, Call.operands])]

/-! making a block, and nothing more -/

def Makes (P : Program) (env : Nat → Value) (s : Sem Value) (w : World) (ι : Inj) (b : Nat) (obj : AObj) (v : AV) : Prop :=
  ∃ y x sz k, s.run P w = .ok y { w with heap := w.heap.push x, drawn := k } ∧ OR env (ι.add b (w.heap.size, sz)) obj sz x ∧ VR env (ι.add b (w.heap.size, sz)) v y

theorem makes_var {b : Nat} (hb : ι b = none) {v : AV} {r : Row} {x : Value} (t : TypeId) (hv : VR env ι v x) (hrow : vrow v = some r) :
    ∃ a, (newVar t x).run P w = .ok a { w with heap := w.heap.push (.cells x.cells t) } ∧ OR env (ι.add b (w.heap.size, x.cells.size)) (.cells r false true) x.cells.size (.cells x.cells t) ∧
      VR env (ι.add b (w.heap.size, x.cells.size)) (.ptr b 0) (.pointer (some a)) := by
  refine ⟨⟨w.heap.size, 0, none⟩, by simp [newVar, newRow], ?_, .ptr _ _ _ x.cells.size (by simp [Inj.add])⟩
  exact .cells r false true x.cells t (0, 0) x.cells.toList [] (by simp) ((hv.vrow hrow).mono (Ext.add hb)) (fun _ => rfl) (.inl rfl)

theorem alloc_makes {t : TypeId} {u : AV} (he : allocA P t h = some (u, h')) : ∃ obj, h' = h.new obj ∧ ∀ env w ι, ι h.next = none → Makes P env (Instr.alloc t true (.tuple #[])) w ι h.next obj u := by
  obtain ⟨v, hv, h1⟩ := obind_eq he
  obtain ⟨r, hrow, h2⟩ := obind_eq h1
  rw [forceN_eq] at h2
  cases h2
  refine ⟨_, rfl, fun env w ι hb => ?_⟩
  obtain ⟨x, hx, hvr⟩ := run_zeroValue (P := P) (env := env) hv w
  obtain ⟨a, h1, h2, h3⟩ := makes_var (P := P) (w := w) hb t (hvr ι) hrow
  exact ⟨_, _, _, w.drawn, by simp [Instr.alloc, hx, h1], h2, h3⟩

theorem map_makes {t : TypeId} {u : AV} (he : makeMapA h = some (u, h')) : ∃ obj, h' = h.new obj ∧ ∀ env w ι, ι h.next = none → Makes P env (Instr.makeMap t none) w ι h.next obj u := by
  rw [makeMapA, forceN_eq] at he; cases he
  refine ⟨_, rfl, fun env w ι hb => ⟨_, .map #[] 0, 0, w.drawn, by simp [Instr.makeMap]; rfl, ?_, ?_⟩⟩
  · exact .map [] 0 [] 0 .nil
  · exact .map _ _ 0 (by simp [Inj.add])

theorem slice_makes {t : TypeId} {len : Nat} {u : AV} {ps : List (Nat × AV)} (he : buildSliceA P t len ps h = some (u, h')) :
    ∃ obj, h' = h.new obj ∧ ∀ env w ι qs, ι h.next = none → PR env ι ps qs → Makes P env (Instr.buildSlice t len qs.toArray) w ι h.next obj u := by
  obtain ⟨d, hd, h3⟩ := obind_eq he
  cases d <;> first | (cases h3; done) | skip
  rename_i elem
  obtain ⟨s, hs, h4⟩ := obind_eq h3
  rcases bif'_some h4 with ⟨g1, h5⟩ | ⟨_, h5⟩
  case inr => cases h5
  obtain ⟨z, hz, h6⟩ := obind_eq h5
  obtain ⟨r, hrow, h7⟩ := obind_eq h6
  rcases bif'_some h7 with ⟨g2, h8⟩ | ⟨_, h8⟩
  case inr => cases h8
  obtain ⟨r', hr', h9⟩ := obind_eq h8
  rw [forceN_eq] at h9; cases h9
  refine ⟨_, rfl, fun env w ι qs hb hp => ?_⟩
  obtain ⟨x, hx, hvx⟩ := run_zeroValue (P := P) (env := env) hz w
  have hxr := (hvx ι).vrow hrow
  have hxs : x.cells.size = s := by rw [vrow_size (hvx ι) hrow]; exact beqT g2
  let cells : Array Value := (Array.range (len * s)).map (fun i => x.cells[i % x.cells.size]!)
  have hcells : cells.toList = (List.replicate len x.cells.toList).flatten := zeros_list x.cells len (len * s) (by rw [hxs])
  have hrr : RR env ι (rrep r len) cells.toList := by rw [hcells]; exact rrep_ok hxr len
  obtain ⟨cs, f1, f2, f3⟩ := fillA_ok hp hrr hr'
  have f1' : Instr.fill (fun i => some (i * s, s)) cells qs = some cs := f1
  have hle : ¬ len * s > 2 ^ 24 := by have g := bleT g1; have g' : len * s ≤ 16777216 := g; omega
  refine ⟨.slice (some ⟨w.heap.size, 0, none⟩) len len, .cells cs elem, cs.size, w.drawn, ?_, ?_, ?_⟩
  · simp only [Instr.buildSlice, Sem.run_bind, run_underlying hd, Result.andThen_ok, run_sizeOf hs, hle, if_false]
    by_cases h0 : len * s = 0
    · have hc0 : cells = #[] := by show (Array.range (len * s)).map _ = _; rw [h0]; simp
      rw [hc0] at f1'
      simp only [h0, if_true, Sem.run_pure, Result.andThen_ok, Sem.run_bind]
      have : ((Array.range 0).map fun x => (#[] : Array Value)[x % (#[] : Array Value).size]!) = #[] := by simp
      rw [this, f1']
      simp [newRow]
    · simp only [h0, if_false, Sem.run_bind, hx, Result.andThen_ok, Sem.run_pure]
      have : (Array.range (len * s)).map (fun i => x.cells[i % x.cells.size]!) = cells := rfl
      rw [this, f1']
      simp [newRow]
  · exact .cells r' false true cs elem (0, 0) cs.toList [] (by simp) (f3.mono (Ext.add hb)) (fun _ => rfl) (.inl rfl)
  · exact .slice _ _ _ _ _ cs.size (by simp [Inj.add])

theorem bytes_makes {a b : TypeId} {v u : AV} {e : TypeId} (ha : P.underlying a = some .string) (hd : P.underlying b = some (.slice e)) (he : convA P a b v h = some (u, h')) :
    ∃ obj, h' = h.new obj ∧ ∀ env w ι xv, ι h.next = none → VR env ι v xv → Makes P env (convert a b xv) w ι h.next obj u := by
  obtain ⟨s, hs, h1⟩ := obind_eq he
  obtain ⟨d, hd', h2⟩ := obind_eq h1
  rw [hd] at hd'; cases hd'
  rw [ha] at hs; cases hs
  cases v <;> first | (cases h2; done) | skip
  case str n N =>
    rcases bif'_some h2 with ⟨hu, h3⟩ | ⟨_, h3⟩
    case inr => cases h3
    rw [forceN_eq] at h3; cases h3
    refine ⟨_, rfl, fun env w ι xv hb hv => ?_⟩
    cases hv
    obtain ⟨cap, hc, hrun⟩ := run_stringToBytes (P := P) e n N w
    refine ⟨.slice (some ⟨w.heap.size, 0, none⟩) n cap, .cells (digV n N ++ List.replicate (cap - n) (Value.int .u8 0)).toArray e (cap, cap + 1), cap, w.drawn + 1, ?_, ?_, ?_⟩
    · have := isU8_ok hu
      simp only [convert, Sem.run_bind, run_underlying ha, run_underlying hd, Result.andThen_ok, run_underlying this]
      exact hrun
    · have hsz : (digV n N ++ List.replicate (cap - n) (Value.int .u8 0)).toArray.size = cap := by simp [digV_length]; omega
      have := OR.cells (env := env) (ι := ι.add h.next (w.heap.size, cap)) (bif' (Nat.beq n 0) [] [.bytes n N]) true false (digV n N ++ List.replicate (cap - n) (Value.int .u8 0)).toArray e (cap, cap + 1) (digV n N) (List.replicate (cap - n) (Value.int .u8 0)) (by simp) ?_ (fun h => by cases h) (.inr ⟨rfl, by rw [hsz]; exact Nat.le_refl _⟩)
      · rwa [hsz] at this
      · cases hb : Nat.beq n 0 with
        | true => have := beqT hb; subst this; exact .nil
        | false =>
          have := RR.bytes (env := env) (ι := ι.add h.next (w.heap.size, cap)) n N [] [] .nil
          rwa [List.append_nil] at this
    · exact .sliceu _ _ _ _ _ cap cap (by simp [Inj.add]) hc (by simp)
  all_goals
    rcases bif'_some h2 with ⟨hq, h3⟩ | ⟨_, h3⟩
    case inr => cases h3
    have hab : a = b := beqT hq
    rw [hab, hd] at ha
    cases ha

/-- an operation that only makes a block: it may do so at any time -/
theorem makes_op {o : Oper} {s : ASt} {n : AN} (hk : kindOp P o.op = 2) (he : execT P o.op s h = some (n, h')) :
    ∃ v obj, n = .val (some v) ∧ h' = h.new obj ∧ ∀ (env : Nat → Value) (w : World) (ι : Inj) (ρ : Operand → Value) (ro : Option Nat) (t : TT AV), ι h.next = none →
      (∀ i, Operand.tmp i ∈ o.op.operands → t.at i = s.t.at i) → (∀ x ∈ o.op.operands, Knows env ι t ρ x) →
      ∃ y x sz k, (o.semAt ro ρ).run P w = .ok (.value y) { w with heap := w.heap.push x, drawn := k } ∧ OR env (ι.add h.next (w.heap.size, sz)) obj sz x ∧ VR env (ι.add h.next (w.heap.size, sz)) v y := by
  obtain ⟨dst, op, ty, pos, af, g⟩ := o
  have fin : ∀ {env w ι obj v} {ρ : Operand → Value} {ro : Option Nat} {S : Sem Value}, (∀ c, op ≠ .defer c) → execOp ρ ⟨dst, op, ty, pos, af, g⟩ = (do pure (.value (← S))) → Makes P env S w ι h.next obj v →
      ∃ y x sz k, (Oper.semAt ro ρ ⟨dst, op, ty, pos, af, g⟩).run P w = .ok (.value y) { w with heap := w.heap.push x, drawn := k } ∧ OR env (ι.add h.next (w.heap.size, sz)) obj sz x ∧ VR env (ι.add h.next (w.heap.size, sz)) v y := by
    intro env w ι obj v ρ ro S hd hs hm
    obtain ⟨y, x, sz, k, h1, h2, h3⟩ := hm
    refine ⟨y, x, sz, k, ?_, h2, h3⟩
    rw [Oper.semAt_eq _ _ _ hd, hs]
    simp [h1]
  have know : ∀ {env : Nat → Value} {ι : Inj} {ρ : Operand → Value} {t : TT AV}, (∀ i, Operand.tmp i ∈ op.operands → t.at i = s.t.at i) → (∀ x ∈ op.operands, Knows env ι t ρ x) → ∀ x ∈ op.operands, Knows env ι s.t ρ x := by
    intro env ι ρ t h1 h2 x hx v hv
    refine h2 x hx v ?_
    rw [← hv]
    exact aval_congr fun i hi => h1 i (hi ▸ hx)
  cases op <;> first | (cases he; done) | (cases hk; done) | skip
  case alloc e =>
    obtain ⟨v, hv, rfl⟩ := both_some he
    obtain ⟨obj, e1, hm⟩ := alloc_makes hv
    exact ⟨v, obj, rfl, e1, fun env w ι ρ ro t hb _ _ => fin (fun _ h => by cases h) rfl (hm env w ι hb)⟩
  case buildSlice t n ps =>
    simp only [execT, xBuildSlice, tmpsOf_eq] at he
    obtain ⟨l, hl, h1⟩ := obind_eq he
    obtain ⟨u, hv, rfl⟩ := both_some h1
    obtain ⟨obj, e1, hm⟩ := slice_makes hv
    refine ⟨u, obj, rfl, e1, fun env w ι ρ ro t' hb hsame hk => ?_⟩
    have hk' := know hsame hk
    have hp := aparts_ok (ρ := ρ) (env := env) (ι := ι) (fun x hx => hk' x.2 (by
      simp only [Op.operands, List.mem_toArray, List.mem_map]; exact ⟨x, hx, rfl⟩)) hl
    have e0 : (ps.map fun (i, x) => (i, ρ x)) = (ps.toList.map fun p => (p.1, ρ p.2)).toArray := by
      rw [← Array.toList_map, Array.toArray_toList]
    refine fin (fun _ h => by cases h) ?_ (hm env w ι _ hb hp)
    simp only [execOp, e0]
  case binOp op t x y yt => cases op <;> cases hk
  case convert a b x =>
    simp only [execT, xConv, tmpsOf_eq] at he
    obtain ⟨v, hv, h1⟩ := obind_eq he
    obtain ⟨u, hu, rfl⟩ := both_some h1
    simp only [kindOp] at hk
    split at hk <;> first | (cases hk; done) | skip
    rename_i e hd
    split at hk <;> first | (cases hk; done) | skip
    rename_i ha
    obtain ⟨obj, e1, hm⟩ := bytes_makes ha hd hu
    refine ⟨u, obj, rfl, e1, fun env w ι ρ ro t' hb hsame hk => ?_⟩
    have hk' := know hsame hk
    exact fin (fun _ h => by cases h) rfl (hm env w ι (ρ x) hb (hk' x (by simp [Op.operands]) v hv))
  case makeMap t r =>
    cases r with
    | some x => cases he
    | none =>
      obtain ⟨v, hv, rfl⟩ := both_some he
      obtain ⟨obj, e1, hm⟩ := map_makes (P := P) (t := t) hv
      exact ⟨v, obj, rfl, e1, fun env w ι ρ ro t hb _ _ => fin (fun _ h => by cases h) rfl (hm env w ι hb)⟩
  case call c =>
    obtain ⟨callee, args, types⟩ := c
    cases callee <;> first | (cases hk; done) | skip
    rename_i b
    cases b <;> cases hk

end
end Go.Ab
