/- Ranges over functions; the whole evaluator. -/
import Derived.Test.YtdakmcoggmlglaaGreatAbSound2
set_option linter.all false
namespace Go.Ab
open Go.RowKit
noncomputable section

variable {P : Program} {env : Nat → Value} {W : Base} {w : World} {ι : Inj} {h h' : AHeap} {F : Fence}

theorem notCells_loop (r : Loop) : ∀ a b d, Obj.loop r ≠ .cells a b d := fun _ _ _ h => by cases h

/-- what is known of a live record of a loop -/
theorem HR.loopAt (hr : HR env W ι h w) {b c s : Nat} {st : LoopState} {pend : Option Code} {size : Nat} {t : TT AV} {params : List Tmp} {assign body : Code} {d : Nat}
    (hb : h.at b = some (.loop st pend size t params assign body d)) (hc : ι b = some (c, s)) :
    ∃ fn tmps dc ds, w.heap[c]? = some (.loop { state := st, pending := pend, fn, tmps, params := params.toArray, assign, body, defers := dc }) ∧ TR env ι size t tmps ∧ ι d = some (dc, ds) ∧
      ∀ st' pend', HR env W ι (h.put b (some (.loop st' pend' size t params assign body d))) (putObj w c (.loop { state := st', pending := pend', fn, tmps, params := params.toArray, assign, body, defers := dc })) := by
  obtain ⟨x, hx, hor⟩ := hr.obj b _ c s hb hc
  cases hor with
  | loop _ _ fn _ _ tmps _ _ _ _ dc _ ds g1 g2 =>
    exact ⟨fn, tmps, dc, ds, hx, g1, g2, fun st' pend' => hr.set hb hc (.loop st' pend' fn size t tmps params assign body d dc s ds g1 g2)⟩

theorem run_range {J : JobF} (hJ : JOk P J) (g : Operand) (ps : Array Tmp) (assign body : Code) : RunOk P (.rangeFunc g ps assign body) (rangeA P J g ps.toList assign body) := by
  intro F hF env W n s h p hp ι act w Q r hr hQ
  unfold rangeA at hp
  cases hrd : s.round with
  | some b => rw [hrd] at hp; cases hp
  | none =>
    rw [hrd] at hp
    have hFr := r.rd hrd
    obtain ⟨fv, hfv, h1⟩ := obind_eq hp
    have hk := knows_of r.tmps.at_ g fv hfv
    rw [forceN_eq, forceN_eq] at h1
    cases fv <;> first | (cases h1; done) | skip
    rename_i gf first cap
    rcases bif'_some h1 with ⟨hb, h2⟩ | ⟨_, h2⟩
    case inr => cases h2
    obtain ⟨q, hq, h3⟩ := obind_eq h2
    obtain ⟨ret, hm⟩ := q
    generalize hgx : act.eval g = gx at hk
    cases hk with
    | fn _ _ _ xs ys k1 k2 =>
    -- the record is laid
    have hr1 := hr.new (o := .dfr false) (x := .deferred (some [])) (s := 0) (.dfr false 0)
    have e1 := hr.ext_new (w.heap.size, 0)
    refine wpIn_rangeFunc fun fn _ => ?_
    let w1 : World := { w with heap := w.heap.push (.deferred (some [])) }
    let ι1 : Inj := ι.add h.next (w.heap.size, 0)
    let rec' : Loop := { state := .ready, pending := none, fn, tmps := act.tmps, params := ps, assign, body, defers := w.heap.size }
    let w2 : World := { w1 with heap := w1.heap.push (.loop rec') }
    have hr1' : HR env W ι1 (h.new (.dfr false)) w1 := hr1
    have e2 := hr1'.ext_new (w1.heap.size, 0)
    let ι2 : Inj := ι1.add (h.new (.dfr false)).next (w1.heap.size, 0)
    have hd1 : ι1 h.next = some (w.heap.size, 0) := by simp [ι1, Inj.add]
    have hor : OR env ι2 (.loop .ready none s.size s.t ps.toList assign body h.next) 0 (.loop rec') := by
      have := OR.loop (env := env) (ι := ι2) .ready none fn s.size s.t act.tmps ps.toList assign body h.next w.heap.size 0 0 ((r.tmps.mono e1).mono e2) (e2 _ _ hd1)
      simpa using this
    have hr2 : HR env W ι2 ((h.new (.dfr false)).new (.loop .ready none s.size s.t ps.toList assign body h.next)) w2 := hr1'.new hor
    have hl2 : ι2 (Nat.succ h.next) = some (w.heap.size + 1, 0) := by
      show (ι1.add (Nat.succ h.next) (w1.heap.size, 0)) (Nat.succ h.next) = _
      simp [Inj.add, w1]
    have e12 : Ext ι ι2 := e1.trans e2
    have hyl : LR env ι2 [AV.yld (Nat.succ h.next)] [Value.func (.yield (w.heap.size + 1)) #[] #[]] := .cons _ _ _ _ (.yld _ _ _ hl2) .nil
    have hargs := ((k1.mono e12).app hyl).app (k2.mono e12)
    have hcall := hJ (.fn gf) _ _ ret hm hq env W ι2 w2 _ hargs hr2
    refine ⟨w.heap.size + 1, [{ target := .collected w.heap.size, args := #[] }], w2, { target := .fn (.func gf) ys.toArray, args := xs.toArray ++ #[Value.func (.yield (w.heap.size + 1)) #[] #[]] }, w2, gf,
      ((xs ++ [Value.func (.yield (w.heap.size + 1)) #[] #[]]) ++ ys).toArray, w2, ?_, ?_, fun f _ => hF.fn f, ?_, hF.deep, ?_⟩
    · rw [hFr]
      simp [Instr.enterLoop, w2, w1, rec']
    · simp only [resolve, rangeCall, hgx, Deferred.ofValue]
      simp [Act.eval]
    · have := bodied_ok (P := P) hb ((xs ++ [Value.func (.yield (w.heap.size + 1)) #[] #[]]) ++ ys).toArray w2
      rw [← this]
      simp [invoke]
    · refine hF.calls (Calls.mono hcall fun e w3 hret => ?_)
      obtain ⟨ι3, x, rfl, e3, _, hr3⟩ := hret
      have hl3 : ι3 (Nat.succ h.next) = some (w.heap.size + 1, 0) := e3 _ _ hl2
      have hd3 : ι3 h.next = some (w.heap.size, 0) := e3 _ _ (e2 _ _ hd1)
      have e13 : Ext ι ι3 := e12.trans e3
      obtain ⟨o, ho, h4⟩ := obind_eq h3
      have ho' : hm.at (Nat.succ h.next) = some o := ho
      have hsr : ∀ ι', Ext ι3 ι' → SR env P ι' F ⟨s.size, s.t, .coll h.next :: s.defers, none⟩ { act with defers := [{ target := .collected w.heap.size, args := #[] }] ++ act.defers } := fun ι' e' =>
        ⟨r.tmps.mono (e13.trans e'), .cons _ _ _ _ (.coll _ _ _ (e' _ _ hd3)) (r.defers.mono (e13.trans e')), fun _ => hFr⟩
      have fin : ∀ {st pend size t params as bd d}, hm.at (Nat.succ h.next) = some (.loop st pend size t params as bd d) → st ≠ .busy →
          ∃ w4, (Instr.endLoop (w.heap.size + 1)).run P w3 = .ok pend w4 ∧ HR env W ι3 (hm.put (Nat.succ h.next) (some (.loop .exhausted pend size t params as bd d))) w4 := by
        intro st pend size t params as bd d hat hst
        obtain ⟨fn', tmps', dc, ds, g1, g2, g3, g4⟩ := hr3.loopAt hat hl3
        refine ⟨_, ?_, g4 .exhausted pend⟩
        have hgo : (Instr.getLoop (w.heap.size + 1)).run P w3 = .ok { state := st, pending := pend, fn := fn', tmps := tmps', params := params.toArray, assign := as, body := bd, defers := dc } w3 := by
          simp [Instr.getLoop, run_getObj_at g1 (notCells_loop _)]
        have hso := fun o => run_setObj_at (P := P) g1 (notCells_loop _) o
        cases st <;> first | exact absurd rfl hst | simp [Instr.endLoop, hgo, hso]
      split at h4 <;> first | (cases h4; done) | skip
      · cases h4
        obtain ⟨w4, g1, g2⟩ := fin ho' (by intro h; cases h)
        exact ⟨none, w4, g1, hQ ι3 _ w4 e13 (hsr ι3 (.refl ι3)) g2⟩
      · cases h4
        obtain ⟨w4, g1, g2⟩ := fin ho' (by intro h; cases h)
        exact ⟨_, w4, g1, wpIn_exit (hQ ι3 _ w4 e13 (hsr ι3 (.refl ι3)) g2)⟩
      · cases h4
        obtain ⟨w4, g1, g2⟩ := fin ho' (by intro h; cases h)
        exact ⟨_, w4, g1, wpIn_goto (hQ ι3 _ w4 e13 (hsr ι3 (.refl ι3)) g2)⟩
      · cases h4
        obtain ⟨w4, g1, g2⟩ := fin ho' (by intro h; cases h)
        exact ⟨_, w4, g1, wpIn_ret (hQ ι3 _ w4 e13 (hsr ι3 (.refl ι3)) g2)⟩

theorem evC_ok {J : JobF} (hJ : JOk P J) (L : Nat) : CodeOk P J L := by
  intro c
  induction c with
  | skip => intro F hF env W n s h p hp ι act w Q r hr hQ; cases hp; exact wpIn_skip (hQ ι act w (.refl ι) r hr)
  | region id ops draw => exact run_region hJ id ops draw
  | seq a b ha hb => exact run_seq ha hb a b
  | cond c a b ha hb => exact run_cond ha hb a b
  | block id a ha => exact run_block ha a
  | loop a ha => exact run_loop ha L a
  | rangeFunc f ps a b _ _ => exact run_range hJ f ps a b
  | exit id => intro F hF env W n s h p hp ι act w Q r hr hQ; cases hp; exact wpIn_exit (hQ ι act w (.refl ι) r hr)
  | scope a ha => exact run_scope ha a
  | label l => intro F hF env W n s h p hp ι act w Q r hr hQ; cases hp; exact wpIn_label (hQ ι act w (.refl ι) r hr)
  | goto l => intro F hF env W n s h p hp ι act w Q r hr hQ; cases hp; exact wpIn_goto (hQ ι act w (.refl ι) r hr)
  | ret => intro F hF env W n s h p hp ι act w Q r hr hQ; cases hp; exact wpIn_ret (hQ ι act w (.refl ι) r hr)
  | refuse why => intro F hF env W n s h p hp; cases hp

theorem putPairs_ok : ∀ {params : List Tmp} {vs : List AV} {xs : List Value} {t : TT AV} {tmps : Array Value} {size : Nat}, LR env ι vs xs → (∀ q ∈ params, q < size) → TR env ι size t tmps →
    TR env ι size (putPairs (params.zip vs) t) ((params.zip xs).foldl (fun tmps (p : Tmp × Value) => tmps.setIfInBounds p.1 p.2) tmps)
  | [], _, _, t, tmps, size, _, _, ht => ht
  | _ :: _, _, _, _, _, _, .nil, _, ht => ht
  | p :: params, _, _, t, tmps, size, .cons v x vs xs hv hl, hlt, ht => by
    show TR env ι size (putPairs (params.zip vs) (t.put p (some v))) ((params.zip xs).foldl _ (tmps.setIfInBounds p x))
    refine putPairs_ok hl (fun q hq => hlt q (List.mem_cons_of_mem _ hq)) ⟨by rw [Array.size_setIfInBounds]; exact ht.size, fun i u hu => ?_⟩
    rw [TT.at_put_eq] at hu
    rw [Array.getElem?_setIfInBounds]
    by_cases e : i = p
    · subst e
      rw [if_pos rfl] at hu; cases hu
      have := hlt i List.mem_cons_self
      exact ⟨x, by simp [ht.size, this], hv⟩
    · rw [if_neg e] at hu
      rw [if_neg (fun h => e h.symm)]
      exact ht.at_ i u hu

theorem roundEnd_ok {b l sz : Nat} {e : AExit} {s : ASt} {r : AV} (he : roundEnd b e s h = some (r, h')) (hb : ι b = some (l, sz)) {ι0 : Inj} (e0 : Ext ι0 ι) (hr : HR env W ι h w) (n : Nat) (a : Act) :
    roundPost P l (RetOk env W ι0 r h') (exitOf e) a w := by
  unfold roundEnd at he
  split at he <;> first | (cases he; done) | skip
  obtain ⟨o, ho, h1⟩ := obind_eq he
  cases o <;> first | (cases h1; done) | skip
  rename_i st pend size t params assign body d
  cases st <;> first | (cases h1; done) | skip
  obtain ⟨fn, tmps, dc, ds, g1, g2, g3, g4⟩ := hr.loopAt ho hb
  have hgo : (Instr.getLoop l).run P w = .ok { state := .busy, pending := pend, fn := fn, tmps := tmps, params := params.toArray, assign := assign, body := body, defers := dc } w := by
    simp [Instr.getLoop, run_getObj_at g1 (notCells_loop _)]
  have hso := fun o => run_setObj_at (P := P) g1 (notCells_loop _) o
  have none' : ∀ {u}, some (AV.bool true, h.put b (some (.loop .ready none size t params assign body d))) = some u → u = (r, h') →
      ∃ v w', (Instr.endRound l none).run P w = .ok v w' ∧ RetOk env W ι0 r h' (.returned v) w' := by
    intro u hu hu'
    cases hu; cases hu'
    exact ⟨_, _, by simp [Instr.endRound, hgo, hso], ι, _, rfl, e0, .bool true, g4 .ready none⟩
  have some' : ∀ {c}, some (AV.bool false, h.put b (some (.loop .done (some c) size t params assign body d))) = some (r, h') →
      ∃ v w', (Instr.endRound l (some c)).run P w = .ok v w' ∧ RetOk env W ι0 r h' (.returned v) w' := by
    intro c hu
    cases hu
    exact ⟨_, _, by simp [Instr.endRound, hgo, hso], ι, _, rfl, e0, .bool false, g4 .done (some c)⟩
  cases e with
  | normal => exact none' h1 rfl
  | exit id => exact some' h1
  | goto t => exact some' h1
  | ret => exact some' h1

theorem roundA_ok {J : JobF} {L : Nat} (hC : CodeOk P J L) {b : Nat} {args : List AV} {r : AV} (he : roundA P J L b args h = some (r, h')) {xs : List Value} (hl : LR env ι args xs) (hr : HR env W ι h w) {l sz : Nat} (hb : ι b = some (l, sz)) :
    ∃ f tmps assign body, (Instr.yield l xs.toArray).run P w = .ok (.round l f tmps assign body) w ∧ ∀ (F : Fence) (n : Nat), Wd F → RoundIn F n P l f tmps assign body w (RetOk env W ι r h') := by
  obtain ⟨o, ho, h1⟩ := obind_eq he
  cases o <;> first | (cases h1; done) | skip
  rename_i st pend size t params assign body d
  cases st <;> first | (cases h1; done) | skip
  rcases bif'_some h1 with ⟨hlen, h2⟩ | ⟨_, h2⟩
  case inr => cases h2
  rcases bif'_some h2 with ⟨hall, h3⟩ | ⟨_, h3⟩
  case inr => cases h3
  obtain ⟨p, hp, h4⟩ := obind_eq h3
  obtain ⟨e, s1, hm⟩ := p
  cases e <;> first | (cases h4; done) | skip
  have h4' : (match s1.defers with
      | [] => obind (hm.at b) fun o => match o with
        | .loop .ready pend' size' t0 params' assign' body' d' =>
          obind (evC P J L body s1 (hm.put b (some (.loop .busy pend' size' t0 params' assign' body' d')))) fun q => roundEnd b q.1 q.2.1 q.2.2
        | _ => none
      | _ => none) = some (r, h') := h4
  cases hdf : s1.defers with
  | cons d ds => rw [hdf] at h4'; cases h4'
  | nil =>
  rw [hdf] at h4'
  obtain ⟨o2, ho2, h5⟩ := obind_eq h4'
  cases o2 <;> first | (cases h5; done) | skip
  rename_i st2 pend2 size2 t2 params2 assign2 body2 d2
  cases st2 <;> first | (cases h5; done) | skip
  obtain ⟨q, hq, h6⟩ := obind_eq h5
  obtain ⟨e2, s2, hm2⟩ := q
  obtain ⟨fn, tmps, dc, ds, g1, g2, g3, _⟩ := hr.loopAt ho hb
  have hxl := hl.len
  have hsize : xs.toArray.size = params.toArray.size := by
    have := beqT hlen
    simp; omega
  refine ⟨fn, (params.zip xs).foldl (fun tmps (p : Tmp × Value) => tmps.setIfInBounds p.1 p.2) tmps, assign, body, ?_, fun F n hF => ?_⟩
  · have hgo : (Instr.getLoop l).run P w = .ok { state := .ready, pending := pend, fn := fn, tmps := tmps, params := params.toArray, assign := assign, body := body, defers := dc } w := by
      simp [Instr.getLoop, run_getObj_at g1 (notCells_loop _)]
    simp only [Instr.yield, Sem.run_bind, hgo, Result.andThen_ok]
    rw [if_neg (by simpa using hsize)]
    simp only [Sem.run_pure]
    congr 2
    rw [← Array.foldl_toList]
    simp [Array.toList_zip]
  · refine roundIn_of_wpIn (hF.fn fn) ?_
    have hlt : ∀ q ∈ params, q < size := fun q hq => bltT (List.all_eq_true.1 hall q hq)
    have hsr : SR env P ι (F.inRound l) ⟨size, putPairs (params.zip args) t, [], some b⟩ { tmps := (params.zip xs).foldl (fun tmps (p : Tmp × Value) => tmps.setIfInBounds p.1 p.2) tmps, defers := [] } :=
      ⟨putPairs_ok hl hlt g2, .nil, fun h => by cases h⟩
    refine hC assign (F.inRound l) (hF.inRound l) env W n _ h _ hp ι _ w _ hsr hr fun ι' a' w' ex r' hr' => ?_
    have hb' := ex _ _ hb
    obtain ⟨fn', tmps', dc', ds', k1, k2, k3, k4⟩ := hr'.loopAt ho2 hb'
    have hgo : (Instr.getLoop l).run P w' = .ok { state := .ready, pending := pend2, fn := fn', tmps := tmps', params := params2.toArray, assign := assign2, body := body2, defers := dc' } w' := by
      simp [Instr.getLoop, run_getObj_at k1 (notCells_loop _)]
    have hso := fun o => run_setObj_at (P := P) k1 (notCells_loop _) o
    have hbr : (Instr.beginRound l).run P w' = .ok () (putObj w' l (.loop { state := .busy, pending := pend2, fn := fn', tmps := tmps', params := params2.toArray, assign := assign2, body := body2, defers := dc' })) := by
      simp only [Instr.beginRound, Sem.run_bind, hgo, Result.andThen_ok, hso, Sem.run_pure]
    refine ⟨_, hbr, ?_⟩
    refine hC body (F.inRound l) (hF.inRound l) env W n s1 _ _ hq ι' a' _ _ r' (k4 .busy pend2) fun ι'' a'' w'' ex' r'' hr'' => ?_
    exact roundEnd_ok h6 (ex' _ _ hb') (ex.trans ex') hr'' n a''

theorem job_ok (P : Program) (L : Nat) : ∀ n, JOk P (job P L n)
  | 0 => fun j args h r h' he => by cases he
  | n + 1 => by
    have ih := job_ok P L n
    have hC := evC_ok ih L
    intro j args h r h' he env W ι w xs hl hr
    cases j with
    | fn f => exact callFn_ok ih hC he hl hr
    | dfn f => exact fun F n hF => callD_ok hC he hl hr hF n
    | rnd b => exact fun l sz hb => roundA_ok hC he hl hr hb

end
end Go.Ab
