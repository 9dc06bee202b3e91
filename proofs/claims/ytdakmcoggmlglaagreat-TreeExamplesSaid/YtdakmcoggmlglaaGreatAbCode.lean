/- Operations in their order; code; calls: what the evaluator says holds of the machine. -/
import Derived.Test.YtdakmcoggmlglaaGreatAbOpSem
import Derived.RangeFuncIn
import Derived.DefersIn
set_option linter.all false
namespace Go.Ab
open Go.RowKit
noncomputable section

variable {P : Program} {env : Nat → Value} {W : Base} {w : World} {ι : Inj} {h h' : AHeap} {F : Fence}

theorem Wd.fenced (hF : Wd F) (m : Machine) : m.fenced P F := by
  intro g _
  refine ⟨fun h => ?_, Or.inl (hF.fn _), fun f _ => hF.fn f, fun _ h => ?_⟩
  · rw [hF.alive] at h; cases h
  · rw [hF.depth] at h; cases h

theorem Wd.room (hF : Wd F) (n : Nat) : F.room n := fun _ h => by rw [hF.depth] at h; cases h
theorem Wd.deep (hF : Wd F) {n : Nat} : F.depth.isSome = true → 1 ≤ n := fun h => by rw [hF.depth] at h; cases h

theorem Wd.steps (hF : Wd F) {m m' : Machine} (h : Steps P m m') : StepsIn (Machine.fenced P F) P m m' := (StepsIn.of_steps h).mono fun m _ => hF.fenced m

theorem Wd.comes (hF : Wd F) {m m' : Machine} {e : Ending} (h : Comes P m m' e) : ComesIn (Machine.fenced P F) P m m' e := by
  cases e with
  | returned v => exact hF.steps h
  | panicked c => exact hF.steps h
  | outgrown => exact h

theorem Wd.calls (hF : Wd F) {n : Nat} {f : FuncId} {args : Array Value} {R : Ending → World → Prop} (h : Calls P f args w R) : CallsIn F n P f args w R :=
  ⟨hF.fn f, fun cs _ => let ⟨e, w', fr, r, s, x⟩ := h cs; ⟨e, w', fr, r, hF.comes s, x⟩⟩

theorem Wd.callsD (hF : Wd F) {n : Nat} {f : FuncId} {args : Array Value} {u : FrameMode} {R : Ending → FrameMode → World → Prop} (h : CallsDIn Fence.wide n P f args u w R) : CallsDIn F n P f args u w R :=
  ⟨hF.fn f, fun c cs hu _ => let ⟨e, u', w', fr, r, s, x⟩ := h.2 c cs hu (room_wide _); ⟨e, u', w', fr, r, hF.comes s.comes, x⟩⟩

/-- what a call has come to -/
def RetOk (env : Nat → Value) (W : Base) (ι : Inj) (r : AV) (h' : AHeap) (e : Ending) (w' : World) : Prop :=
  ∃ ι' x, e = .returned x ∧ Ext ι ι' ∧ VR env ι' r x ∧ HR env W ι' h' w'

/-- calls that the evaluator has carried out -/
def JOk (P : Program) (J : JobF) : Prop :=
  ∀ (j : Job) (args : List AV) (h : AHeap) (r : AV) (h' : AHeap), J j args h = some (r, h') → ∀ (env : Nat → Value) (W : Base) (ι : Inj) (w : World) (xs : List Value), LR env ι args xs → HR env W ι h w →
    match j with
    | .fn f => Calls P f xs.toArray w (RetOk env W ι r h')
    | .dfn f => ∀ (F : Fence) (n : Nat), Wd F → CallsDIn F n P f xs.toArray .returning w (fun e u' w' => u' = .returning ∧ RetOk env W ι r h' e w')
    | .rnd b => ∀ l sz, ι b = some (l, sz) → ∃ f tmps assign body, (Instr.yield l xs.toArray).run P w = .ok (.round l f tmps assign body) w ∧
        ∀ (F : Fence) (n : Nat), Wd F → RoundIn F n P l f tmps assign body w (RetOk env W ι r h')

inductive DsR (env : Nat → Value) (P : Program) (ι : Inj) : List ADef → List Deferred → Prop where
  | nil : DsR env P ι [] []
  | cons (d : ADef) (D : Deferred) (ds : List ADef) (Ds : List Deferred) : DR env P ι d D → DsR env P ι ds Ds → DsR env P ι (d :: ds) (D :: Ds)

theorem DsR.mono {ι' : Inj} (e : Ext ι ι') : ∀ {ds : List ADef} {Ds : List Deferred}, DsR env P ι ds Ds → DsR env P ι' ds Ds
  | _, _, .nil => .nil
  | _, _, .cons d D ds Ds a b => .cons d D ds Ds (a.mono e) (DsR.mono e b)

def pushAll (s : ASt) (ds : List ADef) : ASt := ⟨s.size, s.t, ds ++ s.defers, s.round⟩

theorem putS_some {s s' : ASt} {d : Option Tmp} {v : Option AV} (hp : putS s d v = some s') :
    (d = none ∧ s' = s) ∨ ∃ k, d = some k ∧ k < s.size ∧ s' = ⟨s.size, s.t.put k v, s.defers, s.round⟩ := by
  cases d with
  | none => cases hp; exact .inl ⟨rfl, rfl⟩
  | some k =>
    obtain ⟨size, t, df, rd⟩ := s
    have hp' : bif' (Nat.blt k size) (some (⟨size, t.put k v, df, rd⟩ : ASt)) none = some s' := hp
    rcases bif'_some hp' with ⟨hb, h2⟩ | ⟨_, h2⟩
    · cases h2; exact .inr ⟨k, rfl, bltT hb, rfl⟩
    · cases h2

theorem keepS_some {s s' : ASt} {d : Option Tmp} {v : Option AV} (hp : keepS s d v h = some (s', h')) : putS s d v = some s' ∧ h' = h := by
  obtain ⟨s1, h1, h2⟩ := obind_eq hp
  cases h2; exact ⟨h1, rfl⟩

/-- an operation, its call included -/
theorem opGo_wp {J : JobF} (hJ : JOk P J) (hF : Wd F) (hr : HR env W ι h w) {o : Oper} {s s' : ASt} {a : Act} (hro : s.round = none → F.round = none) (hk : ∀ x ∈ o.op.operands, Knows env ι s.t a.eval x)
    (he : opGo P J o s h = some (s', h')) :
    ∃ (v : Option AV) (ds : List ADef), putS (pushAll s ds) o.dst v = some s' ∧ ∀ (n : Nat) (K : Act → World → Prop) (Q : Exit → Act → World → Prop),
      (∀ ι' w' y Ds, Ext ι ι' → HR env W ι' h' w' → (∀ u, v = some u → VR env ι' u y) → DsR env P ι' ds Ds → K ({ a with defers := Ds ++ a.defers }.put o.dst y) w') → o.wpIn F n P a w K Q := by
  obtain ⟨x, hx, hf⟩ := obind_eq he
  obtain ⟨nx, h1⟩ := x
  have hn := execT_ok hr hro hk hx
  have hab : ∀ f, o.about P w a.eval = some f → F.fn f := fun f _ => hF.fn f
  have unit : ∀ {ι : Inj}, VR env ι (.tup []) undef := .tup [] [] .nil
  have pa : pushAll s [] = s := by cases s; rfl
  cases nx with
  | val v =>
    obtain ⟨h2, rfl⟩ := keepS_some hf
    obtain ⟨ι', w', y, hs, he', hv, hr'⟩ := hn
    refine ⟨v, [], by rw [pa]; exact h2, fun n K Q hK => ⟨hab, ?_⟩⟩
    rw [hs]
    exact hK ι' w' y [] he' hr' hv .nil
  | skip =>
    obtain ⟨h2, rfl⟩ := keepS_some hf
    obtain ⟨ι', w', hs, he', hr'⟩ := hn
    refine ⟨some (.tup []), [], by rw [pa]; exact h2, fun n K Q hK => ⟨hab, ?_⟩⟩
    rw [hs]
    exact hK ι' w' undef [] he' hr' (fun u hu => by cases hu; exact unit) .nil
  | enter f args =>
    obtain ⟨p, hp, h3⟩ := obind_eq hf
    obtain ⟨r, h4⟩ := p
    obtain ⟨h2, rfl⟩ := keepS_some h3
    obtain ⟨xs, hs, hl, hr'⟩ := hn
    have hc := hJ (.fn f) args h1 r h' hp env W ι w xs hl hr'
    refine ⟨some r, [], by rw [pa]; exact h2, fun n K Q hK => ⟨hab, ?_⟩⟩
    rw [hs]
    refine ⟨hF.deep, hF.calls (Calls.mono hc fun e w' hh => ?_)⟩
    obtain ⟨ι', x, rfl, e1, e2, e3⟩ := hh
    exact hK ι' w' x [] e1 e3 (fun u hu => by cases hu; exact e2) .nil
  | yld b args =>
    obtain ⟨p, hp, h3⟩ := obind_eq hf
    obtain ⟨r, h4⟩ := p
    obtain ⟨h2, rfl⟩ := keepS_some h3
    obtain ⟨l, sz, xs, hs, hb, hl, hr'⟩ := hn
    obtain ⟨f, tmps, assign, body, hy, hrd⟩ := hJ (.rnd b) args h1 r h' hp env W ι w xs hl hr' l sz hb
    refine ⟨some r, [], by rw [pa]; exact h2, fun n K Q hK => ⟨hab, ?_⟩⟩
    rw [hs, hy]
    refine ⟨hF.deep, RoundIn.mono (hrd F (n - 1) hF) fun e w' hh => ?_⟩
    obtain ⟨ι', x, rfl, e1, e2, e3⟩ := hh
    exact hK ι' w' x [] e1 e3 (fun u hu => by cases hu; exact e2) .nil
  | dfr d =>
    obtain ⟨h2, rfl⟩ := keepS_some hf
    obtain ⟨D, hs, hd, hr'⟩ := hn
    have pd : pushD s d = pushAll s [d] := by cases s; rfl
    refine ⟨some (.tup []), [d], by rw [← pd]; exact h2, fun n K Q hK => ⟨hab, ?_⟩⟩
    rw [hs]
    exact hK ι w undef [D] (.refl ι) hr' (fun u hu => by cases hu; exact unit) (.cons _ _ _ _ hd .nil)

/-- temporaries and deferred calls of an activation -/
structure SR (env : Nat → Value) (P : Program) (ι : Inj) (F : Fence) (s : ASt) (a : Act) : Prop where
  tmps : TR env ι s.size s.t a.tmps
  defers : DsR env P ι s.defers a.defers
  rd : s.round = none → F.round = none

theorem SR.mono {ι' : Inj} {s : ASt} {a : Act} (e : Ext ι ι') (r : SR env P ι F s a) : SR env P ι' F s a := ⟨r.tmps.mono e, r.defers.mono e, r.rd⟩

theorem eval_tmp (a : Act) (i : Nat) : a.eval (.tmp i) = (a.tmps[i]?).getD undef := by
  simp [Act.eval]

theorem knows_of {t : TT AV} {a : Act} (hk : ∀ i v, t.at i = some v → ∃ x, a.tmps[i]? = some x ∧ VR env ι v x) (x : Operand) : Knows env ι t a.eval x := by
  intro v hv
  cases x with
  | tmp i =>
    obtain ⟨y, hy, hvy⟩ := hk i v hv
    rw [eval_tmp, hy]; exact hvy
  | const c => exact ofV_ok hv
  | func f => cases hv; exact .fn f [] [] [] [] .nil .nil
  | global g => cases hv

theorem DsR.app : ∀ {ds es : List ADef} {Ds Es : List Deferred}, DsR env P ι ds Ds → DsR env P ι es Es → DsR env P ι (ds ++ es) (Ds ++ Es)
  | _, _, _, _, .nil, h => h
  | _, _, _, _, .cons d D ds Ds a b, h => .cons d D _ _ a (DsR.app b h)

theorem put_tmps (a : Act) (d : Nat) (y : Value) : (a.put (some d) y).tmps = a.tmps.setIfInBounds d y := rfl
theorem put_defers' (a : Act) (d : Option Tmp) (y : Value) : (a.put d y).defers = a.defers := by cases d <;> rfl

theorem SR.put {s s' : ASt} {a : Act} {ds : List ADef} {Ds : List Deferred} {d : Option Tmp} {v : Option AV} {y : Value} (r : SR env P ι F s a) (hp : putS (pushAll s ds) d v = some s')
    (hv : ∀ u, v = some u → VR env ι u y) (hd : DsR env P ι ds Ds) : SR env P ι F s' ({ a with defers := Ds ++ a.defers }.put d y) := by
  rcases putS_some hp with ⟨rfl, rfl⟩ | ⟨k, rfl, hk, rfl⟩
  · exact ⟨r.tmps, hd.app r.defers, r.rd⟩
  · refine ⟨⟨?_, fun i u hu => ?_⟩, hd.app r.defers, r.rd⟩
    · rw [put_tmps, Array.size_setIfInBounds]; exact r.tmps.size
    · have hks : k < a.tmps.size := by rw [r.tmps.size]; exact hk
      rw [put_tmps, Array.getElem?_setIfInBounds]
      have hu' : (s.t.put k v).at i = some u := hu
      rw [TT.at_put_eq] at hu'
      by_cases e : i = k
      · subst e
        rw [if_pos rfl] at hu'
        exact ⟨y, by simp [hks], hv u hu'⟩
      · rw [if_neg e] at hu'
        rw [if_neg (fun e' => e e'.symm)]
        exact r.tmps.at_ i u hu'

/-- what a guard says -/
theorem wantA_ok {s : ASt} {a : Act} {ops : List Oper} {j : Nat} {want b : Bool}
    (hk : ∀ d, ((ops[j]?).bind (·.dst)) = some d → ∀ v, s.t.at d = some v → ∃ x, a.tmps[d]? = some x ∧ VR env ι v x)
    (hw : wantA s ops j want = some b) : ∀ o : Oper, o.guard = some (j, want) → Region.wanted o (yielded ops.toArray a.tmps) = b := by
  intro o ho
  obtain ⟨g, hg, h1⟩ := obind_eq hw
  obtain ⟨d, hd, h2⟩ := obind_eq h1
  obtain ⟨v, hv, h3⟩ := obind_eq h2
  have htm : tmpsOf s = s.t := by cases s; rfl
  rw [htm] at hv
  obtain ⟨x, hx, hvx⟩ := hk d (by rw [hg]; exact hd) v hv
  have hy : yielded ops.toArray a.tmps j = match x with | .bool b => some b | _ => none := by
    unfold yielded
    simp only [List.getElem?_toArray, hg, Option.bind_some, hd, hx]
    cases x <;> rfl
  simp only [Region.wanted, ho, hy]
  cases hvx <;> first | (cases h3; done) | skip
  · rename_i c
    cases h3
    cases c <;> cases want <;> rfl
  · cases h3; rfl

theorem keepS_wp (hr : HR env W ι h w) {o : Oper} {s s' : ASt} {a : Act} (r : SR env P ι F s a) (he : keepS s o.dst (some (.tup [])) h = some (s', h')) :
    SR env P ι F s' (a.put o.dst undef) ∧ HR env W ι h' w := by
  obtain ⟨h2, rfl⟩ := keepS_some he
  have pa : pushAll s [] = s := by cases s; rfl
  have := r.put (ds := []) (Ds := []) (y := undef) (by rw [pa]; exact h2) (fun u hu => by cases hu; exact .tup [] [] .nil) .nil
  exact ⟨this, hr⟩

/-- operations one behind the other -/
theorem opsA_wp {J : JobF} (hJ : JOk P J) (hF : Wd F) {n : Nat} {ops : List Oper} {Q : Exit → Act → World → Prop} : ∀ (k : Nat) (todo : List Oper), (∀ i, todo[i]? = ops[k + i]?) → k + todo.length = ops.length →
    ∀ {ι : Inj} {w : World} {h : AHeap} {s s' : ASt} {h' : AHeap} {a : Act}, SR env P ι F s a → HR env W ι h w → opsA P J ops todo s h = some (s', h') →
    (∀ ι' a' w', Ext ι ι' → SR env P ι' F s' a' → HR env W ι' h' w' → Q .normal a' w') → wpOpsIn F n P ops.toArray Q ((List.range todo.length).map (k + ·)) a w := by
  intro k todo
  induction todo generalizing k with
  | nil =>
    intro _ _ ι w h s s' h' a r hr he hQ
    cases he
    exact hQ ι a w (.refl ι) r hr
  | cons o todo ih =>
    intro hix hlen ι w h s s' h' a r hr he hQ
    obtain ⟨p, hp, he2⟩ := obind_eq he
    obtain ⟨s1, h1⟩ := p
    have hok : ops.toArray[k]? = some o := by
      have := hix 0; simp at this; simpa using this.symm
    have hrange : (List.range (o :: todo).length).map (k + ·) = k :: (List.range todo.length).map ((k + 1) + ·) := by
      simp only [List.length_cons, List.range_succ_eq_map, List.map_cons, List.map_map, Nat.add_zero, List.cons.injEq, true_and]
      apply List.map_congr_left
      intro i _
      simp only [Function.comp]; omega
    rw [hrange]
    simp only [wpOpsIn, hok]
    have hnext : ∀ ι' a' w', Ext ι ι' → SR env P ι' F s1 a' → HR env W ι' h1 w' → wpOpsIn F n P ops.toArray Q ((List.range todo.length).map ((k + 1) + ·)) a' w' := by
      intro ι' a' w' e r' hr'
      refine ih (k + 1) ?_ (by simp at hlen; omega) r' hr' he2 fun ι'' a'' w'' e' r'' hr'' => hQ ι'' a'' w'' (e.trans e') r'' hr''
      intro i
      have := hix (i + 1)
      simp at this
      rw [this]; congr 1; omega
    have go : opGo P J o s h = some (s1, h1) → o.wpIn F n P a w (wpOpsIn F n P ops.toArray Q ((List.range todo.length).map ((k + 1) + ·))) Q := by
      intro hg
      obtain ⟨v, ds, hput, hK⟩ := opGo_wp hJ hF hr r.rd (fun x _ => knows_of r.tmps.at_ x) hg
      exact hK n _ Q fun ι' w' y Ds e hr' hv hd => hnext ι' _ w' e ((r.mono e).put hput hv hd) hr'
    have hp' : Option.rec (opGo P J o s h) (fun g => obind (wantA s ops g.1 g.2) fun w => bif' w (opGo P J o s h) (keepS s o.dst (some (.tup [])) h)) o.guard = some (s1, h1) := hp
    cases hg : o.guard with
    | none =>
      rw [hg] at hp'
      rw [if_pos (by simp [Region.wanted, hg])]
      exact go hp'
    | some g =>
      rw [hg] at hp'
      obtain ⟨j, want⟩ := g
      obtain ⟨b, hb, hp2⟩ := obind_eq hp'
      have hw := wantA_ok (a := a) (fun d _ v hv => r.tmps.at_ d v hv) hb o hg
      rcases bif'_some hp2 with ⟨rfl, h3⟩ | ⟨rfl, h3⟩
      · rw [if_pos hw]; exact go h3
      · rw [if_neg (by rw [hw]; simp)]
        obtain ⟨r', hr'⟩ := keepS_wp hr r h3
        exact ⟨fun f _ => hF.fn f, hnext ι _ w (.refl ι) r' hr'⟩

end
end Go.Ab
