/- Calls, deferred calls, results: what the evaluator says holds of the machine. -/
import Derived.Test.YtdakmcoggmlglaaGreatAbSound
set_option linter.all false
namespace Go.Ab
open Go.RowKit
noncomputable section

variable {P : Program} {env : Nat → Value} {W : Base} {w : World} {ι : Inj} {h h' : AHeap} {F : Fence}

/-! results -/

theorem loadA_same (hr : HR env W ι h w) {t : TypeId} {v u : AV} {x : Value} (hv : VR env ι v x) (hl : loadA P t v h = some u) : ∃ a y, x = .pointer (some a) ∧ (loadVar t a).run P w = .ok y w ∧ VR env ι u y := by
  cases hv <;> first | (cases hl; done) | skip
  rename_i b off c s hc
  obtain ⟨o, ho, h1⟩ := obind_eq hl
  cases o with
  | cells r opn plain =>
    obtain ⟨g, hg, h2⟩ := obind_eq h1
    obtain ⟨cs, e, fz, xs, tail, rfl, a2, a3, a4, _, _⟩ := hr.cells ho hc
    rcases bif'_some h2 with ⟨rfl, h3⟩ | ⟨rfl, h3⟩
    · obtain ⟨n, hn, h4⟩ := obind_eq h3
      obtain ⟨q, hq, h5⟩ := obind_eq h4
      cases h5
      obtain ⟨p1, p2, p3, e1, e2, e3, e4⟩ := a4.rsub hq
      subst e1
      have hld := run_loadCells_here P (w := w) (c := c) (off := off) a2 (a := p1) (b := p2) (d := p3 ++ tail) (by rw [a3]; simp [List.append_assoc]) e2
      rw [e3] at hld
      exact ⟨_, .agg p2.toArray, rfl, by simp [loadVar, run_isAgg hg, run_sizeOf hn, hld], .agg q _ e4⟩
    · obtain ⟨p1, y, p3, e1, e2, e3, _⟩ := a4.rget h3
      subst e1
      have hcell : w.cell? ⟨c, off, none⟩ = some y := by
        rw [cell_at a2, a3, ← e2]; simp
      exact ⟨_, y, rfl, by simp [loadVar, run_isAgg hg, hcell], e3⟩
  | _ => cases h1

def resSem (tmps : Array Value) (r : ResultVar) : Sem Value :=
  match r with
  | .tmp t => pure (tmps.getD t undef)
  | .cell a t => do loadVar t (← asAddr (tmps.getD a undef))

theorem results_eq (fn : Func) (tmps : Array Value) : results fn tmps = (do let vs ← fn.results.mapM (resSem tmps); pure (if h : vs.size = 1 then vs[0] else .tuple vs)) := rfl

theorem resultA_ok (hr : HR env W ι h w) {t : TT AV} {tmps : Array Value} (ht : ∀ i v, t.at i = some v → ∃ x, tmps[i]? = some x ∧ VR env ι v x) {r : ResultVar} {v : AV} (he : resultA P t h r = some v) :
    ∃ x, (resSem tmps r).run P w = .ok x w ∧ VR env ι v x := by
  cases r with
  | tmp i =>
    obtain ⟨x, hx, hv⟩ := ht i v he
    exact ⟨x, by simp [resSem, hx], hv⟩
  | cell a ty =>
    obtain ⟨u, hu, h1⟩ := obind_eq he
    obtain ⟨x, hx, hv⟩ := ht a u hu
    obtain ⟨ad, y, rfl, g1, g2⟩ := loadA_same hr hv h1
    exact ⟨y, by simp [resSem, hx, asAddr, g1], g2⟩

theorem resultsA_ok (hr : HR env W ι h w) {t : TT AV} {tmps : Array Value} (ht : ∀ i v, t.at i = some v → ∃ x, tmps[i]? = some x ∧ VR env ι v x) : ∀ {l : List ResultVar} {vs : List AV}, resultsA P t h l = some vs →
    ∃ xs : List Value, (l.mapM (resSem tmps)).run P w = .ok xs w ∧ LR env ι vs xs
  | [], _, he => by cases he; exact ⟨[], rfl, .nil⟩
  | r :: l, _, he => by
    obtain ⟨v, hv, h1⟩ := obind_eq he
    obtain ⟨vs, hvs, h2⟩ := obind_eq h1
    cases h2
    obtain ⟨x, hx, hvx⟩ := resultA_ok hr ht hv
    obtain ⟨xs, hxs, hl⟩ := resultsA_ok hr ht hvs
    refine ⟨x :: xs, ?_, .cons _ _ _ _ hvx hl⟩
    rw [List.mapM_cons]
    simp only [Sem.run_bind, hx, Result.andThen_ok, hxs, Sem.run_pure]

theorem leave_ok (hr : HR env W ι h w) {fn : Func} {t : TT AV} {tmps : Array Value} (ht : ∀ i v, t.at i = some v → ∃ x, tmps[i]? = some x ∧ VR env ι v x) {vs : List AV} (he : resultsA P t h fn.results.toList = some vs) :
    ∃ x, (results fn tmps).run P w = .ok x w ∧ VR env ι (oneOf vs) x := by
  obtain ⟨xs, hx, hl⟩ := resultsA_ok hr ht he
  have hm : (fn.results.mapM (resSem tmps)).run P w = .ok xs.toArray w := by
    rw [← Array.toArray_toList (xs := fn.results), List.mapM_toArray]
    simp only [Sem.run_map, hx, Result.andThen_ok]
  have e : (results fn tmps).run P w = .ok (if h : xs.toArray.size = 1 then xs.toArray[0] else .tuple xs.toArray) w := by
    rw [results_eq]
    simp only [Sem.run_bind, hm, Result.andThen_ok, Sem.run_pure]
  refine ⟨_, e, ?_⟩
  cases hl with
  | nil => exact .tup [] [] .nil
  | cons v x vs xs h1 h2 =>
    cases h2 with
    | nil => exact h1
    | cons v' x' vs xs h3 h4 =>
      rw [dif_neg (by simp)]
      exact .tup _ (x :: x' :: xs) (.cons _ _ _ _ h1 (.cons _ _ _ _ h3 h4))

theorem run_getObj_at {w : World} {c : Nat} {x : Obj} (hw : w.heap[c]? = some x) (hn : ∀ a b d, x ≠ .cells a b d) : (getObj c).run P w = .ok x w := by
  cases x <;> first | (exact absurd rfl (hn _ _ _)) | simp [getObj, Sem.run, hw]

theorem run_setObj_at {w : World} {c : Nat} {x : Obj} (hw : w.heap[c]? = some x) (hn : ∀ a b d, x ≠ .cells a b d) (o : Obj) : (setObj c o).run P w = .ok () (putObj w c o) := by
  cases x <;> first | (exact absurd rfl (hn _ _ _)) | simp [setObj, Sem.run, hw, putObj]

/-! deferred calls -/

theorem dfrs_ok {J : JobF} (hJ : JOk P J) (hF : Wd F) {n : Nat} {fn : Func} {tmps : Array Value} {R : Ending → World → Prop} : ∀ {ds : List ADef} {Ds : List Deferred} {ι : Inj} {w : World} {h : AHeap}, DsR env P ι ds Ds → HR env W ι h w →
    dfrs J ds h = some h' → (∀ ι' w', Ext ι ι' → HR env W ι' h' w' → ∃ v, (results fn tmps).run P w' = .ok v w' ∧ R (.returned v) w') → LeavesInM F n P fn tmps R Ds .returning w
  | _, _, ι, w, h, .nil, hr, he, hk => by cases he; exact hk ι w (.refl ι) hr
  | _, _, ι, w, h, .cons d D ds Ds hd hds, hr, he, hk => by
    cases hd with
    | call f vs us xs ys hb h1 h2 =>
      have he' : obind (J (.dfn f) (vs ++ us) h) (fun p => dfrs J ds p.2) = some h' := he
      obtain ⟨p, hp, he2⟩ := obind_eq he'
      obtain ⟨r, h2'⟩ := p
      have hc := hJ (.dfn f) (vs ++ us) h r h2' hp env W ι w (xs ++ ys) (h1.app h2) hr F (n - 1) hF
      refine ⟨(by intro e; cases e), .inr ⟨hF.deep, _, _, f, (xs ++ ys).toArray, rfl, ?_, fun g _ => hF.fn g, ?_⟩⟩
      · have := bodied_ok (P := P) hb (xs ++ ys).toArray w
        rw [← this]
        simp [invoke]
      · refine ⟨hc.1, fun c cs hu hroom => ?_⟩
        obtain ⟨e, u', w', fr, ⟨hu', hret⟩, q2, q3⟩ := hc.2 c cs hu hroom
        refine ⟨e, u', w', fr, ?_, q2, q3⟩
        obtain ⟨ι', x, rfl, e1, e2, e3⟩ := hret
        subst hu'
        exact dfrs_ok hJ hF (hds.mono e1) e3 he2 fun ι'' w'' e' => hk ι'' w'' (e1.trans e')
    | coll b c s hb =>
      have he' : obind (h.at b) (fun o => match o with
        | .dfr false => dfrs J ds (h.put b (some (.dfr true)))
        | _ => none) = some h' := he
      obtain ⟨o, ho, he2⟩ := obind_eq he'
      cases o <;> first | (cases he2; done) | skip
      rename_i tk
      cases tk <;> first | (cases he2; done) | skip
      obtain ⟨x, hx, hor⟩ := hr.obj b _ c s ho hb
      cases hor
      refine ⟨(by intro e; cases e), .inl ⟨c, putObj w c (.deferred none), rfl, ?_, ?_⟩⟩
      · have hx' : w.heap[c]? = some (.deferred (some [])) := hx
        simp [Instr.takeDeferred, run_getObj_at hx' (fun _ _ _ h => by cases h), run_setObj_at hx' (fun _ _ _ h => by cases h)]
      · exact dfrs_ok hJ hF hds (hr.set ho hb (.dfr true s)) he2 hk

/-! calls -/

theorem putArgs_at {ι : Inj} {k : Nat} : ∀ {vs : List AV} {i : Nat} {t : TT AV} {tmps : Array Value} {xs : List Value}, LR env ι vs xs → (∀ j v, t.at j = some v → j < i) →
    (∀ j v, t.at j = some v → ∃ x, tmps[j]? = some x ∧ VR env ι v x) → (∀ j x, xs[j]? = some x → tmps[i + j]? = some x) → k = i + vs.length →
    ∀ j v, (putArgs vs i t).at j = some v → ∃ x, tmps[j]? = some x ∧ VR env ι v x
  | [], i, t, tmps, _, .nil, _, ht, _, _ => ht
  | v :: vs, i, t, tmps, _, .cons _ x _ xs hv hl, hlt, ht, hx, hk => by
    show ∀ j u, (putArgs vs (Nat.succ i) (t.put i (some v))).at j = some u → _
    refine putArgs_at (k := k) hl ?_ ?_ ?_ (by simp at hk; omega)
    · intro j u hu
      rw [TT.at_put_eq] at hu
      by_cases e : j = i
      · omega
      · rw [if_neg e] at hu; have := hlt j u hu; omega
    · intro j u hu
      rw [TT.at_put_eq] at hu
      by_cases e : j = i
      · subst e
        rw [if_pos rfl] at hu; cases hu
        exact ⟨x, by have := hx 0 x (by simp); simpa using this, hv⟩
      · rw [if_neg e] at hu; exact ht j u hu
    · intro j y hy
      have := hx (j + 1) y (by simpa using hy)
      rw [← this]; congr 1; omega

theorem args_ok {args : List AV} {xs : List Value} {n : Nat} (hl : LR env ι args xs) (hn : args.length ≤ n) :
    TR env ι n (putArgs args 0 .empty) (xs.toArray ++ Array.replicate (n - xs.toArray.size) undef) := by
  have hlen := hl.len
  refine ⟨by simp; omega, ?_⟩
  refine putArgs_at (k := args.length) hl (fun j v hj => by rw [TT.at_empty] at hj; cases hj) (fun j v hj => by rw [TT.at_empty] at hj; cases hj) ?_ (by simp)
  intro j x hx
  have hlt : j < xs.length := by
    rcases Nat.lt_or_ge j xs.length with h | h
    · exact h
    · rw [List.getElem?_eq_none h] at hx; cases hx
  rw [Nat.zero_add, Array.getElem?_append_left (by simpa using hlt)]
  simpa using hx

/-- every piece of code is carried out as the evaluator says -/
def CodeOk (P : Program) (J : JobF) (L : Nat) : Prop := ∀ c, RunOk P c (evC P J L c)

theorem callFn_ok {J : JobF} {L : Nat} (hJ : JOk P J) (hC : CodeOk P J L) {f : FuncId} {args : List AV} {r : AV} (he : callFn P J L f args h = some (r, h')) {xs : List Value} (hl : LR env ι args xs) (hr : HR env W ι h w) :
    Calls P f xs.toArray w (RetOk env W ι r h') := by
  obtain ⟨fn, hf, h1⟩ := obind_eq he
  obtain ⟨body, hb, h2⟩ := obind_eq h1
  rcases bif'_some h2 with ⟨hn, h3⟩ | ⟨_, h3⟩
  case inr => cases h3
  obtain ⟨p, hp, h4⟩ := obind_eq h3
  obtain ⟨e, s', hm⟩ := p
  have hlv : (e = .normal ∨ e = .ret) ∧ leaveA P J fn.results.toList s' hm = some (r, h') := by
    cases e with
    | normal => exact ⟨.inl rfl, h4⟩
    | ret => exact ⟨.inr rfl, h4⟩
    | exit id => cases h4
    | goto l => cases h4
  obtain ⟨hex, hlv⟩ := hlv
  refine (callsIn_wide (n := 0)).1 (callsIn_of_wp_marks hf hb trivial ?_)
  have hsr : SR env P ι Fence.wide ⟨fn.ntmps, putArgs args 0 .empty, [], none⟩ { tmps := xs.toArray ++ Array.replicate (fn.ntmps - xs.toArray.size) undef, defers := [] } :=
    ⟨args_ok hl (bleT hn), .nil, fun _ => rfl⟩
  refine hC body Fence.wide Wd.wide env W 0 _ h _ hp ι _ w _ hsr hr fun ι' a' w' ex r' hr' => ?_
  have hgo : LeavesInM Fence.wide 0 P fn a'.tmps (RetOk env W ι r h') a'.defers .returning w' := by
    obtain ⟨size, t, df, rd⟩ := s'
    have hlv' : obind (dfrs J df hm) (fun h'' => obind (resultsA P t h'' fn.results.toList) fun l => some (oneOf l, h'')) = some (r, h') := hlv
    obtain ⟨h5, hd, h6⟩ := obind_eq hlv'
    obtain ⟨vs, hvs, h7⟩ := obind_eq h6
    cases h7
    refine dfrs_ok hJ Wd.wide r'.defers hr' hd fun ι'' w'' ex' hr'' => ?_
    obtain ⟨x, hx, hv⟩ := leave_ok (fn := fn) (tmps := a'.tmps) hr'' (r'.tmps.mono ex').at_ hvs
    exact ⟨x, hx, ι'', x, rfl, ex.trans ex', hv, hr''⟩
  rcases hex with rfl | rfl
  · exact hgo
  · exact hgo

theorem callD_ok {J : JobF} {L : Nat} (hC : CodeOk P J L) {f : FuncId} {args : List AV} {r : AV} (he : callD P J L f args h = some (r, h')) {xs : List Value} (hl : LR env ι args xs) (hr : HR env W ι h w) (hF : Wd F) (n : Nat) :
    CallsDIn F n P f xs.toArray .returning w (fun e u' w' => u' = .returning ∧ RetOk env W ι r h' e w') := by
  obtain ⟨fn, hf, h1⟩ := obind_eq he
  obtain ⟨body, hb, h2⟩ := obind_eq h1
  rcases bif'_some h2 with ⟨hn, h3⟩ | ⟨_, h3⟩
  case inr => cases h3
  obtain ⟨p, hp, h4⟩ := obind_eq h3
  obtain ⟨e, s', hm⟩ := p
  have hlv : (e = .normal ∨ e = .ret) ∧ leaveD P fn.results.toList s' hm = some (r, h') := by
    cases e with
    | normal => exact ⟨.inl rfl, h4⟩
    | ret => exact ⟨.inr rfl, h4⟩
    | exit id => cases h4
    | goto l => cases h4
  obtain ⟨hex, hlv⟩ := hlv
  refine hF.callsD (callsDIn_of_wp hf hb trivial ?_)
  have hsr : SR env P ι Fence.wide ⟨fn.ntmps, putArgs args 0 .empty, [], none⟩ { tmps := xs.toArray ++ Array.replicate (fn.ntmps - xs.toArray.size) undef, defers := [] } :=
    ⟨args_ok hl (bleT hn), .nil, fun _ => rfl⟩
  refine hC body Fence.wide Wd.wide env W n _ h _ hp ι _ w _ hsr hr fun ι' a' w' ex r' hr' => ?_
  have hgo : a'.defers = [] ∧ ∃ v, (results fn a'.tmps).run P w' = .ok v w' ∧ RetOk env W ι r h' (.returned v) w' := by
    obtain ⟨size, t, df, rd⟩ := s'
    cases df with
    | cons d ds => cases hlv
    | nil =>
      have hlv' : obind (resultsA P t hm fn.results.toList) (fun l => some (oneOf l, hm)) = some (r, h') := hlv
      obtain ⟨vs, hvs, h7⟩ := obind_eq hlv'
      cases h7
      obtain ⟨x, hx, hv⟩ := leave_ok (fn := fn) (tmps := a'.tmps) hr' r'.tmps.at_ hvs
      have hd := r'.defers
      refine ⟨?_, x, hx, ι', x, rfl, ex, hv, hr'⟩
      generalize a'.defers = l at hd
      cases hd; rfl
  rcases hex with rfl | rfl
  · exact hgo
  · exact hgo

end
end Go.Ab
