/- One operation of the program: the evaluator's answer stands for what the machine does. -/
import Derived.Test.YtdakmcoggmlglaaGreatAbExec
import Derived.ControlIn
set_option linter.all false
namespace Go.Ab
open Go.RowKit
noncomputable section

variable {P : Program} {env : Nat → Value} {W : Base} {w : World} {ι : Inj} {h h' : AHeap}

/-- what is known of an operand stands for its value -/
def Knows (env : Nat → Value) (ι : Inj) (t : TT AV) (ρ : Operand → Value) (x : Operand) : Prop := ∀ v, aval t x = some v → VR env ι v (ρ x)

theorem Knows.mono {ι' : Inj} {t : TT AV} {ρ : Operand → Value} {x : Operand} (k : Knows env ι t ρ x) (e : Ext ι ι') : Knows env ι' t ρ x := fun v hv => (k v hv).mono e

theorem avals_ok {t : TT AV} {ρ : Operand → Value} : ∀ {l : List Operand} {vs : List AV}, (∀ x ∈ l, Knows env ι t ρ x) → avals t l = some vs → LR env ι vs (l.map ρ)
  | [], _, _, h => by cases h; exact .nil
  | x :: l, _, hk, h => by
    obtain ⟨v, hv, h1⟩ := obind_eq h
    obtain ⟨us, hu, h2⟩ := obind_eq h1
    cases h2
    exact .cons v _ us _ (hk x (by simp) v hv) (avals_ok (fun y hy => hk y (by simp [hy])) hu)

theorem aparts_ok {t : TT AV} {ρ : Operand → Value} : ∀ {l : List (Nat × Operand)} {vs : List (Nat × AV)}, (∀ x ∈ l, Knows env ι t ρ x.2) → aparts t l = some vs →
    PR env ι vs (l.map fun p => (p.1, ρ p.2))
  | [], _, _, h => by cases h; exact .nil
  | x :: l, _, hk, h => by
    obtain ⟨v, hv, h1⟩ := obind_eq h
    obtain ⟨us, hu, h2⟩ := obind_eq h1
    cases h2
    exact .cons x.1 v _ us _ (hk x (by simp) v hv) (aparts_ok (fun y hy => hk y (by simp [hy])) hu)

theorem oaval_ok {t : TT AV} {ρ : Operand → Value} {x : Option Operand} {v : Option AV} (hk : ∀ y, x = some y → Knows env ι t ρ y) (h : oaval t x = some v) : OVR env ι v (x.map ρ) := by
  cases x with
  | none => cases h; exact .none
  | some x =>
    obtain ⟨v, hv, h1⟩ := obind_eq h
    cases h1
    exact .some v _ (hk x rfl v hv)

theorem LR.len : ∀ {vs : List AV} {xs : List Value}, LR env ι vs xs → xs.length = vs.length
  | _, _, .nil => rfl
  | _, _, .cons _ _ _ _ _ r => by simp [LR.len r]

theorem LR.app : ∀ {vs us : List AV} {xs ys : List Value}, LR env ι vs xs → LR env ι us ys → LR env ι (vs ++ us) (xs ++ ys)
  | _, _, _, _, .nil, r => r
  | _, _, _, _, .cons v x vs xs a b, r => .cons v x _ _ a (LR.app b r)

theorem LR.get : ∀ {vs : List AV} {xs : List Value} {i : Nat} {v : AV}, LR env ι vs xs → vs[i]? = some v → ∃ x, xs[i]? = some x ∧ VR env ι v x
  | _, _, _, _, .nil, h => by simp at h
  | _, _, 0, _, .cons v x vs xs a b, h => by simp at h; subst h; exact ⟨x, by simp, a⟩
  | _, _, i + 1, _, .cons v x vs xs a b, h => by
    obtain ⟨y, hy, hv⟩ := LR.get b (i := i) (by simpa using h)
    exact ⟨y, by simpa using hy, hv⟩

/-- deferred calls -/
inductive DR (env : Nat → Value) (P : Program) (ι : Inj) : ADef → Deferred → Prop where
  | call (f : FuncId) (vs us : List AV) (xs ys : List Value) : bodied P f = true → LR env ι vs xs → LR env ι us ys →
      DR env P ι (.call f vs us) { target := .fn (.func f) ys.toArray, args := xs.toArray }
  | coll (b c s : Nat) : ι b = some (c, s) → DR env P ι (.coll b) { target := .collected c, args := #[] }

theorem DR.mono {ι' : Inj} (e : Ext ι ι') {d : ADef} {x : Deferred} (r : DR env P ι d x) : DR env P ι' d x := by
  cases r with
  | call f vs us xs ys a b c => exact .call f vs us xs ys a (b.mono e) (c.mono e)
  | coll b c s a => exact .coll b c s (e _ _ a)

/-- what an operation comes to, and what the evaluator says of it -/
def NextOk (P : Program) (env : Nat → Value) (W : Base) (s : Sem Next) (w : World) (ι : Inj) (n : AN) (h' : AHeap) : Prop :=
  match n with
  | .val v => ∃ ι' w' y, s.run P w = .ok (.value y) w' ∧ Ext ι ι' ∧ (∀ u, v = some u → VR env ι' u y) ∧ HR env W ι' h' w'
  | .skip => ∃ ι' w', s.run P w = .ok .skip w' ∧ Ext ι ι' ∧ HR env W ι' h' w'
  | .enter f args => ∃ xs : List Value, s.run P w = .ok (.enter f xs.toArray) w ∧ LR env ι args xs ∧ HR env W ι h' w
  | .yld b args => ∃ (l sz : Nat) (xs : List Value), s.run P w = (Instr.yield l xs.toArray).run P w ∧ ι b = some (l, sz) ∧ LR env ι args xs ∧ HR env W ι h' w
  | .dfr d => ∃ D, s.run P w = .ok (.defer D) w ∧ DR env P ι d D ∧ HR env W ι h' w

theorem NextOk.good {s : Sem Value} {v : AV} (g : Good P env W s w ι v h') : NextOk P env W (do pure (.value (← s))) w ι (.val (some v)) h' := by
  obtain ⟨ι', w', x, h1, h2, h3, h4⟩ := g
  exact ⟨ι', w', x, by simp [h1], h2, fun u hu => by cases hu; exact h3, h4⟩

theorem NextOk.done {s : Sem Unit} (g : Done P env W s w ι h') : NextOk P env W (do s; pure .skip) w ι .skip h' := by
  obtain ⟨ι', w', h1, h2, h4⟩ := g
  exact ⟨ι', w', by simp [h1], h2, h4⟩

theorem both_some {x : Option (AV × AHeap)} {n : AN} (h1 : both x = some (n, h')) : ∃ v, x = some (v, h') ∧ n = .val (some v) := by
  obtain ⟨p, hp, h2⟩ := obind_eq h1
  cases h2
  exact ⟨p.1, hp, rfl⟩

theorem stay_some {x : Option AV} {n : AN} (h1 : stay h x = some (n, h')) : ∃ v, x = some v ∧ n = .val (some v) ∧ h' = h := by
  obtain ⟨p, hp, h2⟩ := obind_eq h1
  cases h2
  exact ⟨p, hp, rfl, rfl⟩

theorem gone_some {x : Option AHeap} {n : AN} (h1 : gone x = some (n, h')) : x = some h' ∧ n = .skip := by
  obtain ⟨p, hp, h2⟩ := obind_eq h1
  cases h2
  exact ⟨hp, rfl⟩

theorem bodied_ok {f : FuncId} (hb : bodied P f = true) (args : Array Value) (w : World) : (callFunc f args).run P w = .ok (.enter f args) w := by
  unfold bodied at hb
  cases hf : P.funcs[f]? with
  | none => rw [hf] at hb; cases hb
  | some fn =>
    rw [hf] at hb
    have hb' : (bif' (fn.name == "runtime.NumGoroutine") false fn.body.isSome) = true := hb
    cases hn : (fn.name == "runtime.NumGoroutine") with
    | true => rw [hn] at hb'; cases hb'
    | false =>
      rw [hn] at hb'
      have hs : fn.body.isSome = true := hb'
      have hne : fn.name ≠ "runtime.NumGoroutine" := by simpa using hn
      have hno : fn.body ≠ none := by intro e; rw [e] at hs; cases hs
      simp [callFunc, hf, hne, hno]

theorem mkIfaceA_ok (hr : HR env W ι h w) {t : TypeId} {v u : AV} {x : Value} (hv : VR env ι v x) (hl : mkIfaceA P t v = some u) : Good P env W (Instr.makeInterface t x) w ι u h := by
  obtain ⟨d, hd, h1⟩ := obind_eq hl
  rcases bif'_some h1 with ⟨hn, h2⟩ | ⟨_, h2⟩
  · cases h2
    refine Good.same hr (x := .iface t x) ?_ (.iface t v x hv)
    cases d <;> first | (cases hn; done) | simp [Instr.makeInterface, run_underlying hd]
  · cases h2

theorem extractA_ok (hr : HR env W ι h w) {v u : AV} {i : Nat} {x : Value} (hv : VR env ι v x) (hl : extractA v i = some u) : Good P env W (Instr.extract x i) w ι u h := by
  cases hv <;> first | (cases hl; done) | skip
  rename_i vs xs hl'
  obtain ⟨y, hy, hvy⟩ := LR.get hl' hl
  exact Good.same hr (x := y) (by simp [Instr.extract, hy]) hvy

theorem LR.two {a b : AV} {x y : Value} (h1 : VR env ι a x) (h2 : VR env ι b y) : LR env ι [a, b] [x, y] := .cons _ _ _ _ h1 (.cons _ _ _ _ h2 .nil)

theorem VR.pair {a b : AV} {x y : Value} (h1 : VR env ι a x) (h2 : VR env ι b y) : VR env ι (.tup [a, b]) (.tuple #[x, y]) := .tup _ [x, y] (LR.two h1 h2)

theorem typeAssertA_ok (hr : HR env W ι h w) {v u : AV} {x : Value} {xt a : TypeId} {ok : Bool} (hv : VR env ι v x) (hl : typeAssertA P v a ok = some u) :
    Good P env W (Instr.typeAssert x xt a ok) w ι u h := by
  obtain ⟨d, hd, h1⟩ := obind_eq hl
  rcases bif'_some h1 with ⟨hn, h2⟩ | ⟨_, h2⟩
  case inr => cases h2
  have fails : ∀ {z : AV}, zeroOf P a = some z → ∃ y, ((do pure (.tuple #[← zeroValue a, .bool false])) : Sem Value).run P w = .ok y w ∧ VR env ι (.tup [z, .bool false]) y := by
    intro z hz
    obtain ⟨y, hy, hvy⟩ := run_zeroValue (P := P) (env := env) hz w
    exact ⟨_, by simp [hy], VR.pair (hvy ι) (.bool false)⟩
  cases hv <;> first | (cases h2; done) | skip
  case iface t v' x' hv' =>
    rcases bif'_some h2 with ⟨he, h3⟩ | ⟨he, h3⟩
    · have hta : t = a := beqT he
      subst hta
      cases h3
      cases ok
      · refine Good.same hr (x := x') ?_ hv'
        cases d <;> first | (cases hn; done) | simp [Instr.typeAssert, run_underlying hd]
      · refine Good.same hr (x := .tuple #[x', .bool true]) ?_ (VR.pair hv' (.bool true))
        cases d <;> first | (cases hn; done) | simp [Instr.typeAssert, run_underlying hd]
    · have hta : t ≠ a := beqF he
      rcases bif'_some h3 with ⟨rfl, h4⟩ | ⟨_, h4⟩
      · obtain ⟨z, hz, h5⟩ := obind_eq h4
        cases h5
        obtain ⟨y, hy, hvy⟩ := fails hz
        refine Good.same hr (x := y) ?_ hvy
        cases d <;> first | (cases hn; done) | simpa [Instr.typeAssert, run_underlying hd, hta] using hy
      · cases h4
  case nili =>
    rcases bif'_some h2 with ⟨rfl, h4⟩ | ⟨_, h4⟩
    · obtain ⟨z, hz, h5⟩ := obind_eq h4
      cases h5
      obtain ⟨y, hy, hvy⟩ := fails hz
      refine Good.same hr (x := y) ?_ hvy
      cases d <;> first | (cases hn; done) | simpa [Instr.typeAssert, run_underlying hd] using hy
    · cases h4

theorem methA_ok {t : TypeId} {name : String} {f : FuncId} (hm : methA P t name = some f) (v : Value) (n : Nat) (w : World) : (method (n + 1) t v name).run P w = .ok (f, v) w := by
  obtain ⟨i, hi, h1⟩ := obind_eq hm
  obtain ⟨m, hm', h2⟩ := obind_eq h1
  rcases bif'_some h2 with ⟨hp, h3⟩ | ⟨_, h3⟩
  case inr => cases h3
  obtain ⟨p, hf, h4⟩ := obind_eq h3
  rcases bif'_some h4 with ⟨hpr, h5⟩ | ⟨_, h5⟩
  case inr => cases h5
  obtain ⟨d, hd, h6⟩ := obind_eq h5
  rcases bif'_some h6 with ⟨hpd, h7⟩ | ⟨_, h7⟩
  case inr => cases h7
  cases h7
  obtain ⟨f, pr⟩ := p
  have hpr' : pr = true := hpr
  subst hpr'
  have hnil : m.path.toList = [] := by simpa using hp
  cases d <;> first | (cases hpd; done) | skip
  simp [method, typeInfo, hi, hm', hnil, follow, hf, receiverAt, run_underlying hd, Place.get]

theorem enterA_some {f : FuncId} {args : List AV} {n : AN} (h1 : enterA P f args = some n) : bodied P f = true ∧ n = .enter f args := by
  rcases bif'_some h1 with ⟨hb, h2⟩ | ⟨_, h2⟩
  · cases h2; exact ⟨hb, rfl⟩
  · cases h2

/-- a call of a function value -/
theorem callA_ok (hr : HR env W ι h w) {fv : AV} {fx : Value} {args : List AV} {xs : List Value} {n : AN} (hf : VR env ι fv fx) (ha : LR env ι args xs) (hc : callA P fv args = some n) :
    NextOk P env W (do let d ← Deferred.ofValue fx xs.toArray; invoke d.target d.args) w ι n h := by
  cases hf <;> first | (cases hc; done) | skip
  case fn f vs us ys zs h1 h2 =>
    obtain ⟨hb, rfl⟩ := enterA_some hc
    refine ⟨(ys ++ xs) ++ zs, ?_, (h1.app ha).app h2, hr⟩
    have := bodied_ok (P := P) hb ((ys ++ xs) ++ zs).toArray w
    simp only [Deferred.ofValue, invoke, Sem.run_bind, Sem.run_pure, Result.andThen_ok]
    rw [← this]
    congr 2
    simp
  case meth name vs us ys zs h1 h2 =>
    have hall := h1.app ha
    simp only [callA] at hc
    split at hc
    · rename_i t v rest heq
      rw [heq] at hall
      obtain ⟨f, hm, h3⟩ := obind_eq hc
      obtain ⟨hb, rfl⟩ := enterA_some h3
      generalize hall' : ys ++ xs = all at hall
      cases hall with
      | cons _ x0 _ xr hv hrest =>
        cases hv with
        | iface _ _ x1 hv1 =>
          refine ⟨x1 :: xr, ?_, .cons _ _ _ _ hv1 hrest, hr⟩
          have hb' := bodied_ok (P := P) hb (x1 :: xr).toArray w
          have e0 : ys.toArray ++ xs.toArray = (Value.iface t x1 :: xr).toArray := by rw [← hall']; simp
          simp only [Deferred.ofValue, invoke, Sem.run_bind, Sem.run_pure, Result.andThen_ok, e0]
          simp only [callMethod, Sem.run_bind, List.size_toArray, List.getElem?_toArray, List.getElem?_cons_zero, run_program, Result.andThen_ok]
          rw [show P.types.size + Made.depth = (P.types.size + Made.depth - 1) + 1 from by have : Made.depth > 0 := (by decide); omega]
          rw [methA_ok hm]
          simp only [Result.andThen_ok]
          rw [← hb']
          congr 2
          simp
    · cases hc
  case yld b c s h1 =>
    cases hc
    refine ⟨c, s, xs, ?_, h1, ha, hr⟩
    simp [Deferred.ofValue, invoke]

theorem invokeA_ok (hr : HR env W ι h w) {t : TypeId} {v : AV} {x : Value} {name : String} {args : List AV} {xs : List Value} {f : FuncId} {n : AN} (hv : VR env ι v x) (ha : LR env ι args xs)
    (hm : methA P t name = some f) (hc : enterA P f (v :: args) = some n) :
    NextOk P env W (invoke (.fn (.method name) #[]) (#[Value.iface t x] ++ xs.toArray)) w ι n h := by
  obtain ⟨hb, rfl⟩ := enterA_some hc
  refine ⟨x :: xs, ?_, .cons _ _ _ _ hv ha, hr⟩
  have hb' := bodied_ok (P := P) hb (x :: xs).toArray w
  have e0 : #[Value.iface t x] ++ xs.toArray = (Value.iface t x :: xs).toArray := by simp
  rw [e0]
  simp only [invoke, List.size_toArray, List.getElem?_toArray, List.getElem?_cons_zero, callMethod, Sem.run_bind, run_program, Result.andThen_ok]
  rw [show P.types.size + Made.depth = (P.types.size + Made.depth - 1) + 1 from by have : Made.depth > 0 := (by decide); omega]
  rw [methA_ok hm]
  simp only [Result.andThen_ok]
  rw [← hb']
  congr 2
  simp

theorem builtinA_ok (hr : HR env W ι h w) {b : Builtin} {ts : Array TypeId} {args : List AV} {xs : List Value} {ty : TypeId} {cs : Array Bool} {n : AN} (ha : LR env ι args xs)
    (hc : builtinA P b ts.toList args h = some (n, h')) : NextOk P env W (builtin b ts ty cs xs.toArray) w ι n h' := by
  have hts : ts = ts.toList.toArray := by simp
  generalize ts.toList = l at hts hc
  subst hts
  have two : ∀ {a b : AV}, args = [a, b] → ∃ x y, xs = [x, y] ∧ VR env ι a x ∧ VR env ι b y := by
    intro a b e
    subst e
    cases ha with
    | cons _ x _ xs h1 h2 => cases h2 with
      | cons _ y _ ys h3 h4 => cases h4; exact ⟨x, y, rfl, h1, h3⟩
  have one : ∀ {a : AV}, args = [a] → ∃ x, xs = [x] ∧ VR env ι a x := by
    intro a e
    subst e
    cases ha with
    | cons _ x _ xs h1 h2 => cases h2; exact ⟨x, rfl, h1⟩
  have unit : VR env ι (.tup []) (.tuple #[]) := .tup [] [] .nil
  cases b <;> first | (cases hc; done) | skip
  case append =>
    simp only [builtinA] at hc
    split at hc
    · obtain ⟨x, y, rfl, h1, h2⟩ := two rfl
      obtain ⟨p, hp, h3⟩ := obind_eq hc
      cases h3
      exact NextOk.good (appendA_ok hr h1 h2 hp)
    · cases hc
  case copy =>
    simp only [builtinA] at hc
    split at hc
    · obtain ⟨x, y, rfl, h1, h2⟩ := two rfl
      obtain ⟨p, hp, h3⟩ := obind_eq hc
      cases h3
      exact NextOk.good (copyA_ok hr h1 h2 hp)
    · cases hc
  case len =>
    simp only [builtinA] at hc
    split at hc
    · obtain ⟨x, rfl, h1⟩ := one rfl
      obtain ⟨p, hp, h3⟩ := obind_eq hc
      cases h3
      exact NextOk.good (builtinLenA_ok hr h1 hp)
    · cases hc
  case delete =>
    simp only [builtinA] at hc
    split at hc
    · obtain ⟨x, y, rfl, h1, h2⟩ := two rfl
      obtain ⟨p, hp, h3⟩ := obind_eq hc
      cases h3
      obtain ⟨w', h5, h6⟩ := deleteA_ok (kt := _) (ty := ty) hr h1 h2 hp
      exact NextOk.good ⟨ι, w', _, h5, .refl ι, unit, h6⟩
    · cases hc
  case clear =>
    simp only [builtinA] at hc
    split at hc
    · obtain ⟨x, rfl, h1⟩ := one rfl
      obtain ⟨p, hp, h3⟩ := obind_eq hc
      cases h3
      obtain ⟨w', h5, h6⟩ := clearA_ok (ty := ty) hr h1 hp
      exact NextOk.good ⟨ι, w', _, h5, .refl ι, unit, h6⟩
    · cases hc
  case max =>
    obtain ⟨p, hp, h3⟩ := obind_eq hc
    cases h3
    obtain ⟨z, hz, hvz⟩ := max_ok (P := P) (a := l.toArray) (ty := ty) ha hp w
    exact NextOk.good (Good.same hr hz hvz)
  case min =>
    obtain ⟨p, hp, h3⟩ := obind_eq hc
    cases h3
    obtain ⟨z, hz, hvz⟩ := min_ok (P := P) (a := l.toArray) (ty := ty) ha hp w
    exact NextOk.good (Good.same hr hz hvz)

theorem callOpA_ok (hr : HR env W ι h w) {t : TT AV} {ρ : Operand → Value} {c : Call} {ty : TypeId} {n : AN} (hk : ∀ x ∈ c.operands, Knows env ι t ρ x)
    (hc : callOpA P t c h = some (n, h')) : NextOk P env W (do let d ← resolve ρ c ty; invoke d.target d.args) w ι n h' := by
  obtain ⟨callee, args, types⟩ := c
  have harg : ∀ x ∈ args.toList, Knows env ι t ρ x := fun x hx => hk x (Array.mem_append.2 (.inr (Array.mem_toList_iff.1 hx)))
  have eargs : args.map ρ = (args.toList.map ρ).toArray := by rw [← Array.toList_map, Array.toArray_toList]
  cases callee with
  | value f =>
    obtain ⟨fv, hf, h1⟩ := obind_eq hc
    obtain ⟨vs, ha, h2⟩ := obind_eq h1
    obtain ⟨m, hm, h3⟩ := obind_eq h2
    cases h3
    have := callA_ok hr (hk f (by simp [Call.operands]) fv hf) (avals_ok harg ha) hm
    simpa only [resolve, eargs] using this
  | invoke r name =>
    obtain ⟨rv, hf, h1⟩ := obind_eq hc
    obtain ⟨vs, ha, h2⟩ := obind_eq h1
    have hvr := hk r (by simp [Call.operands]) rv hf
    cases rv <;> first | (cases h2; done) | skip
    rename_i t' v
    obtain ⟨f, hm, h3⟩ := obind_eq h2
    obtain ⟨m, hm', h4⟩ := obind_eq h3
    cases h4
    generalize hx : ρ r = x at hvr
    cases hvr with
    | iface _ _ x1 hv1 =>
      have := invokeA_ok hr hv1 (avals_ok harg ha) hm hm'
      simpa only [resolve, eargs, hx, pure_bind] using this
  | builtin b =>
    obtain ⟨vs, ha, h2⟩ := obind_eq hc
    have := fun cs => builtinA_ok (cs := cs) (ty := ty) hr (avals_ok harg ha) h2
    simp only [resolve, eargs, invoke, pure_bind]
    exact this _

/-- a fence that shuts nothing out -/
structure Wd (F : Fence) : Prop where
  alive : F.alive = false
  depth : F.depth = none
  fn : ∀ f, F.fn f

theorem Wd.wide : Wd Fence.wide := ⟨rfl, rfl, fun _ => trivial⟩
theorem Wd.inRound {F : Fence} (h : Wd F) (l : Nat) : Wd (F.inRound l) := ⟨h.alive, h.depth, h.fn⟩

theorem nilCheckA_ok (hr : HR env W ι h w) {v u : AV} {x : Value} {dst : Option Tmp} {ty : TypeId} {pos : String} {af : Array Edge} {g : Option (Nat × Bool)} {o : Operand} {ρ : Operand → Value}
    (hx : ρ o = x) (hv : VR env ι v x) (hl : nilCheckA v = some u) :
    NextOk P env W (execOp ρ { dst := dst, op := .nilCheck o, type := ty, pos := pos, after := af, guard := g }) w ι (.val (some u)) h := by
  have key : ∀ {u}, v = u → (execOp ρ { dst := dst, op := .nilCheck o, type := ty, pos := pos, after := af, guard := g }).run P w = .ok (.value x) w →
      NextOk P env W (execOp ρ { dst := dst, op := .nilCheck o, type := ty, pos := pos, after := af, guard := g }) w ι (.val (some u)) h := by
    intro u hu hs
    subst hu
    exact ⟨ι, w, x, hs, .refl ι, fun u hu => by cases hu; exact hv, hr⟩
  cases hv <;> first | (cases hl; done) | skip
  all_goals
    cases hl
    exact key rfl (by simp [execOp, hx])

theorem NextOk.known (hr : HR env W ι h w) {s : Sem Next} {y : Value} {v : Option AV} (hs : s.run P w = .ok (.value y) w) (hv : ∀ u, v = some u → VR env ι u y) : NextOk P env W s w ι (.val v) h :=
  ⟨ι, w, y, hs, .refl ι, hv, hr⟩

theorem fnA_ok (hr : HR env W ι h w) {f : Fn} {l m : List AV} {u : AV} {xs ys : List Value} (h1 : LR env ι l xs) (h2 : LR env ι m ys) (hl : fnA f l m = some u) :
    Good P env W (Instr.makeFunc f xs.toArray ys.toArray) w ι u h := by
  cases f <;> first | (cases hl; done) | skip
  · cases hl; exact Good.same hr rfl (.fn _ _ _ _ _ h1 h2)
  · cases hl; exact Good.same hr rfl (.meth _ _ _ _ _ h1 h2)

theorem execT_ok (hr : HR env W ι h w) {o : Oper} {s : ASt} {ρ : Operand → Value} {ro : Option Nat} {n : AN} (hro : s.round = none → ro = none) (hk : ∀ x ∈ o.op.operands, Knows env ι s.t ρ x)
    (he : execT P o.op s h = some (n, h')) : NextOk P env W (o.semAt ro ρ) w ι n h' := by
  obtain ⟨dst, op, ty, pos, af, g⟩ := o
  have sem : (∀ c, op ≠ .defer c) → NextOk P env W (execOp ρ ⟨dst, op, ty, pos, af, g⟩) w ι n h' → NextOk P env W (Oper.semAt ro ρ ⟨dst, op, ty, pos, af, g⟩) w ι n h' := by
    intro hd hn; rw [Oper.semAt_eq _ _ _ hd]; exact hn
  have k1 : ∀ {x : Operand} {v : AV}, x ∈ op.operands → aval s.t x = some v → VR env ι v (ρ x) := fun hx hv => hk _ hx _ hv
  cases op <;> first | (cases he; done) | skip
  case defer c =>
    simp only [execT, xDefer] at he
    have hrd : roundOf s = s.round := by cases s; rfl
    rw [hrd] at he
    cases hrn : s.round with
    | some b => rw [hrn] at he; cases he
    | none =>
      rw [hrn] at he
      rw [hro hrn]
      have htm : tmpsOf s = s.t := by cases s; rfl
      rw [htm] at he
      obtain ⟨callee, args, types⟩ := c
      cases callee <;> first | (cases he; done) | skip
      rename_i f
      obtain ⟨fv, hf, h1⟩ := obind_eq he
      obtain ⟨vs, ha, h2⟩ := obind_eq h1
      cases fv <;> first | (cases h2; done) | skip
      rename_i gf first cap
      rcases bif'_some h2 with ⟨hb, h3⟩ | ⟨_, h3⟩
      case inr => cases h3
      cases h3
      have hvf := k1 (x := f) (by simp [Op.operands, Call.operands]) hf
      have harg := avals_ok (fun x hx => hk x (by
        have hx' : x ∈ args := Array.mem_toList_iff.1 hx
        simp [Op.operands, Call.operands, hx'])) ha
      generalize hx : ρ f = x at hvf
      cases hvf with
      | fn _ _ _ xs ys g1 g2 =>
        refine ⟨{ target := .fn (.func gf) ys.toArray, args := (xs ++ args.toList.map ρ).toArray }, ?_, .call gf _ _ _ _ hb (g1.app harg) g2, hr⟩
        rw [Oper.semAt_none]
        simp [execOp, resolve, hx, Deferred.ofValue]
  all_goals refine sem (fun _ h => by cases h) ?_
  all_goals simp only [execT] at he
  all_goals have htm : tmpsOf s = s.t := by cases s; rfl
  case move x =>
    simp only [xMove, htm] at he
    cases he
    exact NextOk.known hr (y := ρ x) rfl fun u hu => k1 (by simp [Op.operands]) hu
  case assign x =>
    simp only [xMove, htm] at he
    cases he
    exact NextOk.known hr (y := ρ x) rfl fun u hu => k1 (by simp [Op.operands]) hu
  case pick c a b =>
    simp only [xPick, htm] at he
    obtain ⟨cv, hc, h1⟩ := obind_eq he
    have hvc := k1 (x := c) (by simp [Op.operands]) hc
    cases cv <;> first | (cases h1; done) | skip
    rename_i cb
    generalize hx : ρ c = x at hvc
    cases hvc
    cases h1
    refine NextOk.known hr (y := if cb then ρ a else ρ b) ?_ fun u hu => ?_
    · simp [execOp, hx, asBool]
    · cases cb
      · exact k1 (x := b) (by simp [Op.operands]) hu
      · exact k1 (x := a) (by simp [Op.operands]) hu
  case alloc e =>
    simp only [xAlloc] at he
    obtain ⟨v, hv, rfl⟩ := both_some he
    exact NextOk.good (allocA_ok hr e hv)
  case box e x =>
    simp only [xBox, htm] at he
    obtain ⟨v, hx, h1⟩ := obind_eq he
    obtain ⟨u, hv, rfl⟩ := both_some h1
    exact NextOk.good (boxA_ok hr e (k1 (by simp [Op.operands]) hx) hv)
  case build t ps =>
    simp only [xBuild, htm] at he
    obtain ⟨l, hl, h1⟩ := obind_eq he
    obtain ⟨u, hv, rfl, rfl⟩ := stay_some h1
    have hp := aparts_ok (ρ := ρ) (env := env) (ι := ι) (fun x hx => hk x.2 (by
      simp only [Op.operands, List.mem_toArray, List.mem_map]; exact ⟨x, hx, rfl⟩)) hl
    have := NextOk.good (buildA_ok hr hp hv)
    have e0 : (ps.map fun (i, x) => (i, ρ x)) = (ps.toList.map fun p => (p.1, ρ p.2)).toArray := by
      rw [← Array.toList_map, Array.toArray_toList]
    simp only [execOp, e0]
    exact this
  case buildSlice t n ps =>
    simp only [xBuildSlice, htm] at he
    obtain ⟨l, hl, h1⟩ := obind_eq he
    obtain ⟨u, hv, rfl⟩ := both_some h1
    have hp := aparts_ok (ρ := ρ) (env := env) (ι := ι) (fun x hx => hk x.2 (by
      simp only [Op.operands, List.mem_toArray, List.mem_map]; exact ⟨x, hx, rfl⟩)) hl
    have := NextOk.good (buildSliceA_ok hr hp hv)
    have e0 : (ps.map fun (i, x) => (i, ρ x)) = (ps.toList.map fun p => (p.1, ρ p.2)).toArray := by
      rw [← Array.toList_map, Array.toArray_toList]
    simp only [execOp, e0]
    exact this
  case insert t m k x =>
    simp only [xUpdate, htm] at he
    obtain ⟨mv, hm, h1⟩ := obind_eq he
    obtain ⟨kv, hkv, h2⟩ := obind_eq h1
    obtain ⟨v, hv, h3⟩ := obind_eq h2
    obtain ⟨hu, rfl⟩ := gone_some h3
    obtain ⟨w', h5, h6⟩ := updateA_ok hr (k1 (x := m) (by simp [Op.operands]) hm) (k1 (x := k) (by simp [Op.operands]) hkv) (k1 (x := x) (by simp [Op.operands]) hv) hu
    exact NextOk.done ⟨ι, w', h5, .refl ι, h6⟩
  case mapUpdate t m k x =>
    simp only [xUpdate, htm] at he
    obtain ⟨mv, hm, h1⟩ := obind_eq he
    obtain ⟨kv, hkv, h2⟩ := obind_eq h1
    obtain ⟨v, hv, h3⟩ := obind_eq h2
    obtain ⟨hu, rfl⟩ := gone_some h3
    obtain ⟨w', h5, h6⟩ := updateA_ok hr (k1 (x := m) (by simp [Op.operands]) hm) (k1 (x := k) (by simp [Op.operands]) hkv) (k1 (x := x) (by simp [Op.operands]) hv) hu
    exact NextOk.done ⟨ι, w', h5, .refl ι, h6⟩
  case load t x =>
    simp only [xLoad, htm] at he
    obtain ⟨v, hx, h1⟩ := obind_eq he
    obtain ⟨u, hv, rfl, rfl⟩ := stay_some h1
    exact NextOk.good (loadA_ok hr (k1 (by simp [Op.operands]) hx) hv)
  case store t a x =>
    simp only [xStore, htm] at he
    obtain ⟨v, ha, h1⟩ := obind_eq he
    obtain ⟨u, hx, h2⟩ := obind_eq h1
    obtain ⟨hu, rfl⟩ := gone_some h2
    obtain ⟨w', h5, h6⟩ := storeA_ok hr (k1 (x := a) (by simp [Op.operands]) ha) (k1 (x := x) (by simp [Op.operands]) hx) hu
    exact NextOk.done ⟨ι, w', h5, .refl ι, h6⟩
  case nilCheck x =>
    simp only [xNilCheck, htm] at he
    obtain ⟨v, hx, h1⟩ := obind_eq he
    obtain ⟨u, hv, rfl, rfl⟩ := stay_some h1
    exact nilCheckA_ok hr rfl (k1 (by simp [Op.operands]) hx) hv
  case binOp op t x y yt =>
    simp only [xBin, htm] at he
    obtain ⟨v, hx, h1⟩ := obind_eq he
    obtain ⟨u, hy, h2⟩ := obind_eq h1
    rcases bif'_some h2 with ⟨hg, h3⟩ | ⟨_, h3⟩
    case inr => cases h3
    obtain ⟨z, hz, rfl, rfl⟩ := stay_some h3
    have hvx := k1 (x := x) (by simp [Op.operands]) hx
    have hvy := k1 (x := y) (by simp [Op.operands]) hy
    obtain ⟨ι', w', r, g1, g2, g3, g4⟩ := binA_ok (op := op) hr hvx hvy hz
    have hgd := eqGuardA_ok (op := op) (xo := x) (yo := y) hvx hvy hg w
    refine ⟨ι', w', r, ?_, g2, fun u hu => by cases hu; exact g3, g4⟩
    simp [execOp, hgd, g1]
  case unOp op t x =>
    simp only [xUn, htm] at he
    obtain ⟨v, hx, h1⟩ := obind_eq he
    obtain ⟨u, hv, rfl, rfl⟩ := stay_some h1
    exact NextOk.good (unA_ok hr (k1 (by simp [Op.operands]) hx) hv)
  case convert a b x =>
    simp only [xConv, htm] at he
    obtain ⟨v, hx, h1⟩ := obind_eq he
    obtain ⟨u, hv, rfl⟩ := both_some h1
    exact NextOk.good (convA_ok hr (k1 (by simp [Op.operands]) hx) hv)
  case sliceToArrayPointer t x =>
    simp only [xArrayAt, htm] at he
    obtain ⟨v, hx, h1⟩ := obind_eq he
    obtain ⟨u, hv, rfl, rfl⟩ := stay_some h1
    exact NextOk.good (arrayAtA_ok hr (k1 (by simp [Op.operands]) hx) hv)
  case makeInterface t x =>
    simp only [xMkIface, htm] at he
    obtain ⟨v, hx, h1⟩ := obind_eq he
    obtain ⟨u, hv, rfl, rfl⟩ := stay_some h1
    exact NextOk.good (mkIfaceA_ok hr (k1 (by simp [Op.operands]) hx) hv)
  case makeFunc f a c =>
    simp only [xMkFunc, htm] at he
    obtain ⟨l, hl, h1⟩ := obind_eq he
    obtain ⟨m, hm, h2⟩ := obind_eq h1
    obtain ⟨u, hv, rfl, rfl⟩ := stay_some h2
    have g1 := avals_ok (ρ := ρ) (env := env) (ι := ι) (fun x hx => hk x (by
      have hx' : x ∈ a := Array.mem_toList_iff.1 hx
      simp [Op.operands, hx'])) hl
    have g2 := avals_ok (ρ := ρ) (env := env) (ι := ι) (fun x hx => hk x (by
      have hx' : x ∈ c := Array.mem_toList_iff.1 hx
      simp [Op.operands, hx'])) hm
    have := NextOk.good (P := P) (fnA_ok hr g1 g2 hv)
    have e1 : a.map ρ = (a.toList.map ρ).toArray := by rw [← Array.toList_map, Array.toArray_toList]
    have e2 : c.map ρ = (c.toList.map ρ).toArray := by rw [← Array.toList_map, Array.toArray_toList]
    simp only [execOp, e1, e2]
    exact this
  case makeMap t r =>
    simp only [xMkMap] at he
    cases r with
    | some x => cases he
    | none =>
      obtain ⟨u, hv, rfl⟩ := both_some he
      exact NextOk.good (makeMapA_ok hr hv)
  case makeSlice t l c =>
    simp only [xMkSlice, htm] at he
    obtain ⟨v, hx, h1⟩ := obind_eq he
    obtain ⟨u, hy, h2⟩ := obind_eq h1
    obtain ⟨z, hz, rfl⟩ := both_some h2
    exact NextOk.good (makeSliceA_ok hr (k1 (x := l) (by simp [Op.operands]) hx) (k1 (x := c) (by simp [Op.operands]) hy) hz)
  case slice t x lo hi mx =>
    simp only [xSlice, htm] at he
    obtain ⟨v, hx, h1⟩ := obind_eq he
    obtain ⟨a, ha, h2⟩ := obind_eq h1
    obtain ⟨b, hb, h3⟩ := obind_eq h2
    obtain ⟨c, hc, h4⟩ := obind_eq h3
    obtain ⟨u, hv, rfl, rfl⟩ := stay_some h4
    exact NextOk.good (sliceA_ok hr (k1 (x := x) (by simp [Op.operands]) hx) (oaval_ok (fun y hy => hk y (by simp [Op.operands, hy])) ha)
      (oaval_ok (fun y hy => hk y (by simp [Op.operands, hy])) hb) (oaval_ok (fun y hy => hk y (by simp [Op.operands, hy])) hc) hv)
  case fieldAddr t x f =>
    simp only [xFieldAddr, htm] at he
    obtain ⟨v, hx, h1⟩ := obind_eq he
    obtain ⟨u, hv, rfl, rfl⟩ := stay_some h1
    exact NextOk.good (fieldAtA_ok hr (k1 (by simp [Op.operands]) hx) hv)
  case field t x f =>
    simp only [xField, htm] at he
    obtain ⟨v, hx, h1⟩ := obind_eq he
    obtain ⟨u, hv, rfl, rfl⟩ := stay_some h1
    exact NextOk.good (fieldA_ok hr (k1 (by simp [Op.operands]) hx) hv)
  case indexAddr t x i =>
    simp only [xIndexAddr, htm] at he
    obtain ⟨v, hx, h1⟩ := obind_eq he
    obtain ⟨u, hy, h2⟩ := obind_eq h1
    obtain ⟨z, hz, rfl, rfl⟩ := stay_some h2
    exact NextOk.good (indexAtA_ok hr (k1 (x := x) (by simp [Op.operands]) hx) (k1 (x := i) (by simp [Op.operands]) hy) hz)
  case index t x i =>
    simp only [xIndex, htm] at he
    obtain ⟨v, hx, h1⟩ := obind_eq he
    obtain ⟨u, hy, h2⟩ := obind_eq h1
    obtain ⟨z, hz, rfl, rfl⟩ := stay_some h2
    exact NextOk.good (indexA_ok hr (k1 (x := x) (by simp [Op.operands]) hx) (k1 (x := i) (by simp [Op.operands]) hy) hz)
  case lookup t x i ok =>
    simp only [xLookup, htm] at he
    obtain ⟨v, hx, h1⟩ := obind_eq he
    obtain ⟨u, hy, h2⟩ := obind_eq h1
    obtain ⟨z, hz, rfl, rfl⟩ := stay_some h2
    exact NextOk.good (lookupA_ok hr (k1 (x := x) (by simp [Op.operands]) hx) (k1 (x := i) (by simp [Op.operands]) hy) hz)
  case typeAssert x xt a ok =>
    simp only [xAssert, htm] at he
    obtain ⟨v, hx, h1⟩ := obind_eq he
    obtain ⟨u, hv, rfl, rfl⟩ := stay_some h1
    exact NextOk.good (typeAssertA_ok hr (k1 (by simp [Op.operands]) hx) hv)
  case extract x i =>
    simp only [xExtract, htm] at he
    obtain ⟨v, hx, h1⟩ := obind_eq he
    obtain ⟨u, hv, rfl, rfl⟩ := stay_some h1
    exact NextOk.good (extractA_ok hr (k1 (by simp [Op.operands]) hx) hv)
  case call c =>
    simp only [xCall, htm] at he
    exact callOpA_ok hr (fun x hx => hk x hx) he

end
end Go.Ab
