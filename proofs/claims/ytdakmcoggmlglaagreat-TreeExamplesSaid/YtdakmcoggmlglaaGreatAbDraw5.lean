/- A region that draws its order: the evaluator's plan stands for every order (3). -/
import Derived.Test.YtdakmcoggmlglaaGreatAbDraw4
set_option linter.all false
namespace Go.Ab
open Go.RowKit
noncomputable section

variable {P : Program} {env : Nat → Value} {W W' : Base} {w : World} {ι : Inj} {h h' : AHeap} {F : Fence} {ops : List Oper} {rows : List PRow}
  {L : Nat → Prop} {done : List PItem} {D : Nat} {s : ASt} {a : Act} {Φ : Nat → Option Nat}

theorem knows_look {r : PRow} {t : TT AV} (hlook : r.look = lookOf ops r.op) (hl : ∀ i, has r.look i = true → ∀ v, t.at i = some v → ∃ x, a.tmps[i]? = some x ∧ VR env ι v x) :
    ∀ x ∈ r.op.op.operands, Knows env ι t a.eval x := by
  intro x hx u hu
  cases x with
  | tmp i =>
    obtain ⟨y, hy, hvy⟩ := hl i (by rw [hlook]; exact look_op hx) u hu
    rw [eval_tmp, hy]; exact hvy
  | const c => exact ofV_ok hu
  | func f => cases hu; exact .fn f [] [] [] [] .nil .nil
  | global g => cases hu

/-- an operation that acts, its guard included -/
theorem opA_wp {J : JobF} (hJ : JOk P J) (hF : Wd F) (hr : HR env W ι h w) {i : Nat} {r : PRow} {s' : ASt} (ho : ops[i]? = some r.op) (hlook : r.look = lookOf ops r.op) (hro : s.round = none → F.round = none)
    (hl : ∀ i, has r.look i = true → ∀ v, s.t.at i = some v → ∃ x, a.tmps[i]? = some x ∧ VR env ι v x) (he : opA P J ops r.op s h = some (s', h')) :
    ∃ (v : Option AV) (ds : List ADef), putS (pushAll s ds) r.op.dst v = some s' ∧ ∀ (n : Nat) (K : Act → World → Prop) (Q : Exit → Act → World → Prop),
      (∀ ι' w' y Ds, Ext ι ι' → HR env W ι' h' w' → (∀ u, v = some u → VR env ι' u y) → DsR env P ι' ds Ds → K ({ a with defers := Ds ++ a.defers }.put r.op.dst y) w') → wpOpIn F n P ops.toArray Q i K a w := by
  have hkn := knows_look hlook hl
  have he' : Option.rec (opGo P J r.op s h) (fun g => obind (wantA s ops g.1 g.2) fun w => bif' w (opGo P J r.op s h) (keepS s r.op.dst (some (.tup [])) h)) r.op.guard = some (s', h') := he
  cases hg : r.op.guard with
  | none =>
    rw [hg] at he'
    obtain ⟨v, ds, h1, h2⟩ := opGo_wp hJ hF hr hro hkn he'
    refine ⟨v, ds, h1, fun n K Q hK => ?_⟩
    unfold wpOpIn
    simp only [List.getElem?_toArray, ho]
    rw [if_pos (by simp [Region.wanted, hg])]
    exact h2 n K Q hK
  | some g =>
    rw [hg] at he'
    obtain ⟨b, hb, h1⟩ := obind_eq he'
    have hw := wantA_ok (env := env) (ι := ι) (a := a) (fun d hd v hv => hl d (by rw [hlook]; exact look_guard hg hd) v hv) hb r.op hg
    rcases bif'_some h1 with ⟨rfl, h3⟩ | ⟨rfl, h3⟩
    · obtain ⟨v, ds, h1, h2⟩ := opGo_wp hJ hF hr hro hkn h3
      refine ⟨v, ds, h1, fun n K Q hK => ?_⟩
      unfold wpOpIn
      simp only [List.getElem?_toArray, ho]
      rw [if_pos hw]
      exact h2 n K Q hK
    · obtain ⟨h4, rfl⟩ := keepS_some h3
      have pa : pushAll s [] = s := by cases s; rfl
      refine ⟨some (.tup []), [], by rw [pa]; exact h4, fun n K Q hK => ?_⟩
      unfold wpOpIn
      simp only [List.getElem?_toArray, ho]
      rw [if_neg (by rw [hw]; simp)]
      exact ⟨fun f _ => hF.fn f, hK ι w undef [] (.refl ι) hr (fun u hu => by cases hu; exact .tup [] [] .nil) .nil⟩

/-- the machine and the evaluator take a step that acts -/
theorem Sim.stepLoud {n : Nat} (hR : RowsOk P ops n rows) (S : Sim P env W F ops rows L done D s h a w ι W' Φ) {K : PItem} {s' : ASt} {h' : AHeap} (hI : ItemOk rows D K) (hw : K.way = 2)
    (hre : K.re = rereads rows D K.row.bef) (hb : ∀ j, has K.row.bef j = true → L j) (hp : ∀ I ∈ done, pairOk I K = true)
    {v : Option AV} {ds : List ADef} {Ds : List Deferred} (hput : putS (pushAll s ds) K.row.op.dst v = some s') (hag : againAll P ops s' h' K.re = true)
    {ι' : Inj} {w' : World} {y : Value} (e : Ext ι ι') (hr : HR env W' ι' h' w') (hv : ∀ u, v = some u → VR env ι' u y) (hds : DsR env P ι' ds Ds) :
    Sim P env W F ops rows (fun i => L i ∨ i = K.row.ix) (K :: done) (withBit D K.row.ix) s' h' ({ a with defers := Ds ++ a.defers }.put K.row.op.dst y) w' ι' W' Φ := by
  have hnD : has D K.row.ix = false := by
    have := hI.ready
    unfold readyR at this
    cases hh : has D K.row.ix with
    | true => rw [hh] at this; cases this
    | false => rfl
  have hnew : ∀ it ∈ done, it.row.ix ≠ K.row.ix := fun it hit e => by
    have := (S.dD K.row.ix).2 ⟨it, hit, e⟩
    rw [hnD] at this; cases this
  have hlate : ∀ it ∈ done, ¬ L it.row.ix → (dstIn K.row.op.dst it.row.look = false ∧ ∀ d, K.row.op.dst = some d → it.row.op.dst ≠ some d) := by
    intro it hit hl
    rcases (pairOk_some (hp it hit) (late_way S hit hl)).2 with ⟨_, h1⟩ | h1
    · exact absurd (hb _ h1) hl
    · exact h1
  have hsame : s'.size = s.size ∧ s'.defers = ds ++ s.defers ∧ s'.round = s.round ∧ (∀ t, K.row.op.dst ≠ some t → s'.t.at t = s.t.at t) ∧ (∀ t, K.row.op.dst = some t → t < s.size ∧ s'.t.at t = v) := by
    rcases putS_some hput with ⟨h1, rfl⟩ | ⟨k, h1, h2, rfl⟩
    · exact ⟨rfl, rfl, rfl, fun _ _ => rfl, fun t ht => by rw [h1] at ht; cases ht⟩
    · refine ⟨rfl, rfl, rfl, fun t ht => ?_, fun t ht => ?_⟩
      · show (s.t.put k v).at t = _
        rw [TT.at_put_eq, if_neg]; intro e; subst e; exact ht h1
      · rw [h1] at ht; cases ht
        exact ⟨h2, TT.at_put _ _ _⟩
  obtain ⟨e1, e2, e3, e4, e5⟩ := hsame
  refine ⟨?_, ?_, ?_, ?_, ?_, ?_, ?_, ?_, ?_, ?_, ?_, ?_, hr, S.wW, S.phW, ?_, ?_, ?_⟩
  · intro i
    rw [has_withBit, S.dD]
    constructor
    · rintro (⟨it, h1, h2⟩ | rfl)
      · exact ⟨it, List.mem_cons_of_mem _ h1, h2⟩
      · exact ⟨K, List.mem_cons_self, rfl⟩
    · rintro ⟨it, h1, h2⟩
      rcases List.mem_cons.1 h1 with rfl | h1
      · exact .inr h2
      · exact .inl ⟨it, h1, h2⟩
  · intro it hit
    rcases List.mem_cons.1 hit with rfl | hit
    · exact hI.mem
    · exact S.mem it hit
  · intro I hI' J hJ e
    rcases List.mem_cons.1 hI' with rfl | hI2
    · rcases List.mem_cons.1 hJ with rfl | hJ2
      · rfl
      · exact absurd e.symm (hnew J hJ2)
    · rcases List.mem_cons.1 hJ with rfl | hJ2
      · exact absurd e (hnew I hI2)
      · exact S.one I hI2 J hJ2 e
  · rintro i (hl | rfl)
    · exact (has_withBit _ _ _).2 (.inl (S.lD i hl))
    · exact (has_withBit _ _ _).2 (.inr rfl)
  · rintro r hr' (h1 | h1) j hj
    · exact .inl (S.lb r hr' h1 j hj)
    · rw [hR.one r hr' K.row hI.mem h1] at hj; exact .inl (hb j hj)
  · intro it hit
    rcases List.mem_cons.1 hit with rfl | hit
    · exact .inr (.inr ⟨hw, .inr rfl⟩)
    · rcases S.way it hit with h1 | h1 | ⟨h1, h2⟩
      · exact .inl h1
      · exact .inr (.inl h1)
      · exact .inr (.inr ⟨h1, .inl h2⟩)
  · intro it hit h2
    rcases List.mem_cons.1 hit with rfl | hit
    · exact absurd hw h2
    · exact S.self it hit h2
  · intro I hI' J hJ h1 h2 h3
    rcases List.mem_cons.1 hI' with rfl | hI2
    · exact absurd hw h1
    · rcases List.mem_cons.1 hJ with rfl | hJ2
      · exact absurd hw h2
      · exact S.pd I hI2 J hJ2 h1 h2 h3
  · rw [put_size, e1]; exact S.sz
  · intro t u hu
    by_cases ht : K.row.op.dst = some t
    · obtain ⟨hlt, h2⟩ := e5 t ht
      rw [h2] at hu
      refine .inr ⟨y, ?_, hv u hu⟩
      rw [ht, put_tmps, Array.getElem?_setIfInBounds, if_pos rfl]
      have : ({ a with defers := Ds ++ a.defers } : Act).tmps.size = s.size := S.sz
      simp [S.sz, hlt]
    · rw [e4 t ht] at hu
      rcases S.tm t u hu with ⟨I, h1, h2, h3⟩ | ⟨x, h1, h2⟩
      · refine .inl ⟨I, List.mem_cons_of_mem _ h1, ?_, h3⟩
        rintro (h4 | h4)
        · exact h2 h4
        · exact hnew I h1 h4
      · exact .inr ⟨x, by rw [put_get ht]; exact h1, h2.mono e⟩
  · rw [put_defers', e2]; exact hds.app (S.df.mono e)
  · rw [e3]; exact S.rd
  · intro it hit hl hw0
    rcases List.mem_cons.1 hit with rfl | hit
    · omega
    · have hl' : ¬ L it.row.ix := fun h => hl (.inl h)
      have hrow := hR.row it.row (S.mem it hit)
      have hkk : it.row.kind ≤ 1 := by
        rcases S.way it hit with ⟨_, g⟩ | ⟨g, _⟩ | ⟨g, _⟩
        · exact g
        · omega
        · omega
      have hnb : has K.row.bef it.row.ix = false := by
        cases hh : has K.row.bef it.row.ix with
        | true => exact absurd (hb _ hh) hl'
        | false => rfl
      rw [hre] at hag
      exact late_again (K := K.row) (S.mem it hit) hrow.2.2.1 hkk hrow.2.2.2.2 ((S.dD _).2 ⟨it, hit, rfl⟩) hnb e3 e4 (hlate it hit hl') hag (S.q it hit hl' hw0) e1
  · intro it hit hl hw1
    rcases List.mem_cons.1 hit with rfl | hit
    · omega
    · have hl' : ¬ L it.row.ix := fun h => hl (.inl h)
      obtain ⟨b, obj2, v0, g1, g2, g3, g4, g5⟩ := S.made it hit hl' hw1
      obtain ⟨g6, g7⟩ := hlate it hit hl'
      have hlook := (hR.row it.row (S.mem it hit)).2.2.2.2
      refine ⟨b, obj2, v0, g1, g2, g3, g4.same fun i hi => e4 i (dstIn_of g6 (by rw [hlook]; exact look_op hi)), fun d hd => ?_⟩
      rw [e1]
      refine ⟨(g5 d hd).1, fun u hu => (g5 d hd).2 u ?_⟩
      rw [← e4 d (fun h => g7 d h hd)]; exact hu
  · intro I hI' J hJ l1 l2 w1 w2 b g1 g2
    rcases List.mem_cons.1 hI' with rfl | hI2
    · omega
    · rcases List.mem_cons.1 hJ with rfl | hJ2
      · omega
      · exact S.inj I hI2 J hJ2 (fun h => l1 (.inl h)) (fun h => l2 (.inl h)) w1 w2 b g1 g2

/-- where things stand: somewhere in the plan -/
def Stand (P : Program) (J : JobF) (env : Nat → Value) (W : Base) (F : Fence) (ops : List Oper) (rows : List PRow) (L : Nat → Prop) (a : Act) (w : World) (ι : Inj) (sf : ASt) (hf : AHeap)
    (done : List PItem) (D : Nat) (rest : List PItem) : Prop :=
  ∃ s h W' Φ, Sim P env W F ops rows L done D s h a w ι W' Φ ∧ PlanS rows D rest ∧ (∀ I ∈ done, ∀ K ∈ rest, pairOk I K = true) ∧ pairsOk rest = true ∧ runPlan P J ops rest s h = some (sf, hf)

theorem pairs_head {I : PItem} : ∀ {rest : List PItem}, (List.rec true (fun K _ k => bif' (pairOk I K) k false) rest : Bool) = true → ∀ K ∈ rest, pairOk I K = true
  | [], _, _, h => by simp at h
  | q :: rest, hp, K, hK => by
    obtain ⟨h1, h2⟩ := bif'_true_of (b := pairOk I q) (x := (List.rec true (fun K _ k => bif' (pairOk I K) k false) rest : Bool)) hp
    rcases List.mem_cons.1 hK with rfl | hK
    · exact h1
    · exact pairs_head h2 K hK

theorem pairsOk_cons {I : PItem} {rest : List PItem} (hp : pairsOk (I :: rest) = true) : selfOk I = true ∧ (∀ K ∈ rest, pairOk I K = true) ∧ pairsOk rest = true := by
  have hp' : bif' (selfOk I) (bif' (List.rec (motive := fun _ => Bool) true (fun K _ k => bif' (pairOk I K) k false) rest) (pairsOk rest) false) false = true := hp
  obtain ⟨h1, h2⟩ := bif'_true_of hp'
  obtain ⟨h3, h4⟩ := bif'_true_of h2
  exact ⟨h1, pairs_head h3, h4⟩

theorem selfOk_some {I : PItem} (hs : selfOk I = true) (hw : I.way ≠ 2) : dstIn I.row.op.dst I.row.look = false := by
  unfold selfOk at hs
  cases hb : Nat.beq I.way 2 with
  | true => exact absurd (beqT hb) hw
  | false =>
    rw [hb] at hs
    have hs' : bnot (dstIn I.row.op.dst I.row.look) = true := hs
    rw [bnot_eq] at hs'
    simpa using hs'

/-- the evaluator goes on to the next step that acts -/
theorem Stand.advance {J : JobF} {n : Nat} (hR : RowsOk P ops n rows) {sf : ASt} {hf : AHeap} : ∀ {rest done : List PItem} {D : Nat}, Stand P J env W F ops rows L a w ι sf hf done D rest →
    ∃ done' D' rest', Stand P J env W F ops rows L a w ι sf hf done' D' rest' ∧ (rest' = [] ∨ ∃ K r, rest' = K :: r ∧ K.way = 2) := by
  intro rest
  induction rest with
  | nil => intro done D hs; exact ⟨done, D, [], hs, .inl rfl⟩
  | cons K rest ih =>
    intro done D hs
    by_cases hw2 : K.way = 2
    · exact ⟨done, D, K :: rest, hs, .inr ⟨K, rest, rfl, hw2⟩⟩
    · obtain ⟨s, h, W', Φ, S, hp, hpr, hps, hrun⟩ := hs
      cases hp with
      | cons _ _ _ hI hrest =>
        obtain ⟨hself, hk, hps'⟩ := pairsOk_cons hps
        have hself' := selfOk_some hself hw2
        obtain ⟨p, hp1, hrun'⟩ := obind_eq hrun
        obtain ⟨s1, h1⟩ := p
        have hpair : ∀ I ∈ done, pairOk I K = true := fun I hI' => hpr I hI' K List.mem_cons_self
        have hpr' : ∀ I ∈ K :: done, ∀ K' ∈ rest, pairOk I K' = true := by
          intro I hI' K' hK'
          rcases List.mem_cons.1 hI' with rfl | hI'
          · exact hk K' hK'
          · exact hpr I hI' K' (List.mem_cons_of_mem _ hK')
        unfold runItem at hp1
        rcases hI.way with ⟨hw, hkd⟩ | ⟨hw, hkd, hre⟩ | ⟨hw, _⟩
        · have hb : Nat.beq K.way 0 = true := by rw [hw]; rfl
          rw [hb] at hp1
          obtain ⟨v, hv, hk2⟩ := obind_eq hp1
          obtain ⟨hput, rfl⟩ := keepS_some hk2
          have S' := S.stepQuiet hI hw hkd (hR.row K.row hI.mem).2.2.2.2 (fun it hit => (hR.row it.row (S.mem it hit)).2.2.2.2) hself' hpair hv hput
          exact ih ⟨_, _, _, _, S', hrest, hpr', hps', hrun'⟩
        · have hb : Nat.beq K.way 0 = false := by rw [hw]; rfl
          rw [hb] at hp1
          obtain ⟨p, hv, hk2⟩ := obind_eq hp1
          rcases bif'_some hk2 with ⟨hag, h3⟩ | ⟨_, h3⟩
          case inr => cases h3
          cases h3
          obtain ⟨W'', Φ', S'⟩ := S.stepAlloc hR hI hw hkd hre hself' hpair hv hag
          exact ih ⟨_, _, _, _, S', hrest, hpr', hps', hrun'⟩
        · exact absurd hw hw2

/-- how many operations are not listed yet -/
def unl (n : Nat) (listed : Array Bool) : Nat := (List.range n).countP fun i => !(listed.getD i false)

theorem unl_set {n i : Nat} {listed : Array Bool} (hi : i < n) (hs : listed.size = n) (hu : listed.getD i false = false) : unl n (listed.setIfInBounds i true) + 1 = unl n listed := by
  unfold unl
  have hget : ∀ j, (listed.setIfInBounds i true).getD j false = (if j = i then true else listed.getD j false) := by
    intro j
    by_cases e : j = i
    · subst e; rw [if_pos rfl]; simp [hs, hi]
    · rw [if_neg e]; exact getD_set_ne false (fun h => e h.symm)
  have key : ∀ l : List Nat, l.Nodup → i ∈ l → l.countP (fun j => !((listed.setIfInBounds i true).getD j false)) + 1 = l.countP (fun j => !(listed.getD j false)) := by
    intro l
    induction l with
    | nil => intro _ h; simp at h
    | cons x l ih =>
      intro hnd hm
      rw [List.countP_cons, List.countP_cons, hget x]
      have hx := (List.nodup_cons.1 hnd)
      by_cases e : x = i
      · subst e
        have hsame : l.countP (fun j => !((listed.setIfInBounds x true).getD j false)) = l.countP (fun j => !(listed.getD j false)) := by
          apply List.countP_congr
          intro j hj
          have hne : j ≠ x := fun h => hx.1 (h ▸ hj)
          rw [hget j, if_neg hne]
        rw [hsame, if_pos rfl, hu]; simp
      · have := ih hx.2 (by rcases List.mem_cons.1 hm with h | h; exact absurd h.symm e; exact h)
        rw [if_neg e]; omega
  exact key _ List.nodup_range (List.mem_range.2 hi)

theorem unl_zero {n : Nat} {listed : Array Bool} (h : unl n listed = 0) (i : Nat) (hi : i < n) : listed.getD i false = true := by
  unfold unl at h
  rw [List.countP_eq_zero] at h
  have := h i (List.mem_range.2 hi)
  simpa using this

/-- edges that always bind bind in every mode -/
theorem binds_any (md : Region.Mode) (e : Edge) (h : bindsAny e = true) : Region.binds md e = true := by
  unfold bindsAny at h; unfold Region.binds
  split at h <;> first | cases h | skip
  split <;> simp_all

def modeEdge : Region.Mode → Edge → Bool
  | .any => bindsAny
  | .text => bindsText
  | .gc => bindsGc

theorem binds_mode (md : Region.Mode) (e : Edge) (h : modeEdge md e = false) : Region.binds md e = false := by
  cases md <;> simp only [modeEdge] at h
  · unfold bindsText at h; unfold Region.binds
    split at h <;> first | (cases h; done) | simp_all
  · unfold bindsGc at h; unfold Region.binds
    split at h <;> first | (cases h; done) | simp_all
  · unfold bindsAny at h; unfold Region.binds
    split at h <;> first | (cases h; done) | simp_all

end
end Go.Ab
