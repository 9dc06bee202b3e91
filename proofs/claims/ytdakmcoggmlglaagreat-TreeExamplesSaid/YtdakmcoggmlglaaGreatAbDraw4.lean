/- A region that draws its order: the evaluator's plan stands for every order (2). -/
import Derived.Test.YtdakmcoggmlglaaGreatAbDraw3
set_option linter.all false
namespace Go.Ab
open Go.RowKit
noncomputable section

variable {P : Program} {env : Nat → Value} {W W' : Base} {w : World} {ι : Inj} {h h' : AHeap} {F : Fence} {ops : List Oper} {rows : List PRow}

def MakesOp (P : Program) (o : Oper) (t : TT AV) (b : Nat) (obj : AObj) (v : AV) : Prop :=
  ∀ (env : Nat → Value) (w : World) (ι : Inj) (ρ : Operand → Value) (ro : Option Nat) (t' : TT AV), ι b = none → (∀ i, Operand.tmp i ∈ o.op.operands → t'.at i = t.at i) → (∀ x ∈ o.op.operands, Knows env ι t' ρ x) →
    ∃ y x sz k, (o.semAt ro ρ).run P w = .ok (.value y) { w with heap := w.heap.push x, drawn := k } ∧ OR env (ι.add b (w.heap.size, sz)) obj sz x ∧ VR env (ι.add b (w.heap.size, sz)) v y

theorem MakesOp.same {o : Oper} {t t2 : TT AV} {b : Nat} {obj : AObj} {v : AV} (hm : MakesOp P o t b obj v) (hs : ∀ i, Operand.tmp i ∈ o.op.operands → t2.at i = t.at i) : MakesOp P o t2 b obj v :=
  fun env w ι ρ ro t' hb h1 h2 => hm env w ι ρ ro t' hb (fun i hi => (h1 i hi).trans (hs i hi)) h2

/-- where the evaluator is, and where the machine is -/
structure Sim (P : Program) (env : Nat → Value) (W : Base) (F : Fence) (ops : List Oper) (rows : List PRow) (L : Nat → Prop) (done : List PItem) (D : Nat) (s : ASt) (h : AHeap) (a : Act) (w : World) (ι : Inj)
    (W' : Base) (Φ : Nat → Option Nat) : Prop where
  dD : ∀ i, has D i = true ↔ ∃ it ∈ done, it.row.ix = i
  mem : ∀ it ∈ done, it.row ∈ rows
  one : ∀ I ∈ done, ∀ K ∈ done, I.row.ix = K.row.ix → I = K
  lD : ∀ i, L i → has D i = true
  lb : ∀ r ∈ rows, L r.ix → ∀ j, has r.bef j = true → L j
  way : ∀ it ∈ done, (it.way = 0 ∧ it.row.kind ≤ 1) ∨ (it.way = 1 ∧ it.row.kind = 2) ∨ (it.way = 2 ∧ L it.row.ix)
  self : ∀ it ∈ done, it.way ≠ 2 → dstIn it.row.op.dst it.row.look = false
  pd : ∀ I ∈ done, ∀ K ∈ done, I.way ≠ 2 → K.way ≠ 2 → I.row.ix ≠ K.row.ix → has K.row.bef I.row.ix = true ∨ dstIn I.row.op.dst K.row.look = false
  sz : a.tmps.size = s.size
  tm : ∀ t v, s.t.at t = some v → (∃ it ∈ done, ¬ L it.row.ix ∧ it.row.op.dst = some t) ∨ ∃ x, a.tmps[t]? = some x ∧ VR env ι v x
  df : DsR env P ι s.defers a.defers
  rd : s.round = none → F.round = none
  hr : HR env W' ι h w
  wW : W'.world = W.world
  phW : ∀ b o, W.ph b = some o → W'.ph b = some o
  q : ∀ it ∈ done, ¬ L it.row.ix → it.way = 0 → ∃ v, evalQ P ops it.row.op s h = some v ∧ ∀ d, it.row.op.dst = some d → d < s.size ∧ ∀ u, s.t.at d = some u → v = some u
  made : ∀ it ∈ done, ¬ L it.row.ix → it.way = 1 → ∃ b obj v, Φ it.row.ix = some b ∧ W'.ph b = some obj ∧ W.ph b = none ∧ MakesOp P it.row.op s.t b obj v ∧ ∀ d, it.row.op.dst = some d → d < s.size ∧ ∀ u, s.t.at d = some u → u = v
  inj : ∀ I ∈ done, ∀ K ∈ done, ¬ L I.row.ix → ¬ L K.row.ix → I.way = 1 → K.way = 1 → ∀ b, Φ I.row.ix = some b → Φ K.row.ix = some b → I = K

variable {L : Nat → Prop} {done : List PItem} {D : Nat} {s : ASt} {a : Act} {Φ : Nat → Option Nat}

theorem dstIn_none {o : Option Tmp} {m d : Nat} (h : dstIn o m = false) (ho : o = some d) : has m d = false := by subst ho; exact h

/-- what the machine's next operation looks at is known -/
theorem Sim.known (S : Sim P env W F ops rows L done D s h a w ι W' Φ) {r : PRow} (hb : ∀ j, has r.bef j = true → L j)
    (hp : ∀ I ∈ done, ¬ L I.row.ix → has r.bef I.row.ix = true ∨ dstIn I.row.op.dst r.look = false) :
    ∀ t, has r.look t = true → ∀ v, s.t.at t = some v → ∃ x, a.tmps[t]? = some x ∧ VR env ι v x := by
  intro t ht v hv
  rcases S.tm t v hv with ⟨I, hI, hL, hd⟩ | h1
  · rcases hp I hI hL with h2 | h2
    · exact absurd (hb _ h2) hL
    · rw [dstIn_none h2 hd] at ht; cases ht
  · exact h1

theorem late_way (S : Sim P env W F ops rows L done D s h a w ι W' Φ) {I : PItem} (hI : I ∈ done) (hL : ¬ L I.row.ix) : I.way ≠ 2 := by
  rcases S.way I hI with ⟨h1, _⟩ | ⟨h1, _⟩ | ⟨_, h2⟩
  · omega
  · omega
  · exact absurd h2 hL

/-- a late operation of the plan: what it looks at is known -/
theorem Sim.late (S : Sim P env W F ops rows L done D s h a w ι W' Φ) {K : PItem} (hK : K ∈ done) (hL : ¬ L K.row.ix) (hb : ∀ j, has K.row.bef j = true → L j) :
    ∀ t, has K.row.look t = true → ∀ v, s.t.at t = some v → ∃ x, a.tmps[t]? = some x ∧ VR env ι v x := by
  refine S.known hb fun I hI hLI => ?_
  by_cases e : I.row.ix = K.row.ix
  · have := S.one I hI K hK e
    subst this
    exact .inr (S.self I hI (late_way S hI hLI))
  · exact S.pd I hI K hK (late_way S hI hLI) (late_way S hK hL) e

theorem put_get {a : Act} {d : Option Tmp} {y : Value} {t : Nat} (h : d ≠ some t) : (a.put d y).tmps[t]? = a.tmps[t]? := by
  cases d with
  | none => rfl
  | some k =>
    rw [put_tmps, Array.getElem?_setIfInBounds, if_neg]
    intro e; exact h (by rw [e])

theorem put_size (a : Act) (d : Option Tmp) (y : Value) : (a.put d y).tmps.size = a.tmps.size := by cases d <;> simp [Act.put]

/-- the machine carries out a late quiet operation -/
theorem Sim.quiet {n : Nat} (hR : RowsOk P ops n rows) (S : Sim P env W F ops rows L done D s h a w ι W' Φ) {K : PItem} (hK : K ∈ done) (hL : ¬ L K.row.ix) (hb : ∀ j, has K.row.bef j = true → L j)
    {ι' : Inj} {w' : World} {y : Value} {v : Option AV} (e : Ext ι ι') (hr : HR env W' ι' h w') (hv : ∀ u, v = some u → VR env ι' u y)
    (hd : ∀ d, K.row.op.dst = some d → d < s.size ∧ ∀ u, s.t.at d = some u → v = some u) :
    Sim P env W F ops rows (fun i => L i ∨ i = K.row.ix) done D s h (a.put K.row.op.dst y) w' ι' W' Φ := by
  refine ⟨S.dD, S.mem, S.one, ?_, ?_, ?_, S.self, S.pd, ?_, ?_, ?_, S.rd, hr, S.wW, S.phW, ?_, ?_, fun I hI J hJ l1 l2 => S.inj I hI J hJ (fun h => l1 (.inl h)) (fun h => l2 (.inl h))⟩
  · rintro i (h1 | rfl)
    · exact S.lD i h1
    · exact (S.dD _).2 ⟨K, hK, rfl⟩
  · rintro r hr' (h1 | h1) j hj
    · exact .inl (S.lb r hr' h1 j hj)
    · rw [hR.one r hr' K.row (S.mem K hK) h1] at hj; exact .inl (hb j hj)
  · intro it hit
    rcases S.way it hit with h1 | h1 | ⟨h1, h2⟩
    · exact .inl h1
    · exact .inr (.inl h1)
    · exact .inr (.inr ⟨h1, .inl h2⟩)
  · rw [put_size]; exact S.sz
  · intro t u hu
    by_cases ht : K.row.op.dst = some t
    · obtain ⟨hlt, h2⟩ := hd t ht
      refine .inr ⟨y, ?_, hv u (h2 u hu)⟩
      rw [ht, put_tmps, Array.getElem?_setIfInBounds, if_pos rfl]
      simp [S.sz, hlt]
    · rcases S.tm t u hu with ⟨I, h1, h2, h3⟩ | ⟨x, h1, h2⟩
      · refine .inl ⟨I, h1, ?_, h3⟩
        rintro (h4 | h4)
        · exact h2 h4
        · rw [S.one I h1 K hK h4] at h3; exact ht h3
      · exact .inr ⟨x, by rw [put_get ht]; exact h1, h2.mono e⟩
  · rw [put_defers']; exact S.df.mono e
  · intro it hit hl; exact S.q it hit (fun h => hl (.inl h))
  · intro it hit hl; exact S.made it hit (fun h => hl (.inl h))

/-- the machine makes a block that the evaluator has laid out -/
theorem Sim.alloc {n : Nat} (hR : RowsOk P ops n rows) (S : Sim P env W F ops rows L done D s h a w ι W' Φ) {K : PItem} (hK : K ∈ done) (hL : ¬ L K.row.ix) (hb : ∀ j, has K.row.bef j = true → L j)
    {b sz k : Nat} {obj : AObj} {v : AV} {x : Obj} {y : Value} (hw1 : K.way = 1) (hΦ : Φ K.row.ix = some b) (hph : W'.ph b = some obj) (hW : W.ph b = none)
    (ho : OR env (ι.add b (w.heap.size, sz)) obj sz x) (hv : VR env (ι.add b (w.heap.size, sz)) v y)
    (hd : ∀ d, K.row.op.dst = some d → d < s.size ∧ ∀ u, s.t.at d = some u → u = v) :
    Sim P env W F ops rows (fun i => L i ∨ i = K.row.ix) done D s h (a.put K.row.op.dst y) { w with heap := w.heap.push x, drawn := k } (ι.add b (w.heap.size, sz)) (addPh W' b none) Φ := by
  have e : Ext ι (ι.add b (w.heap.size, sz)) := Ext.add (S.hr.ph b obj hph).2.1
  refine ⟨S.dD, S.mem, S.one, ?_, ?_, ?_, S.self, S.pd, ?_, ?_, ?_, S.rd, S.hr.late hph ho, S.wW, ?_, ?_, ?_, fun I hI J hJ l1 l2 => S.inj I hI J hJ (fun h => l1 (.inl h)) (fun h => l2 (.inl h))⟩
  · rintro i (h1 | rfl)
    · exact S.lD i h1
    · exact (S.dD _).2 ⟨K, hK, rfl⟩
  · rintro r hr' (h1 | h1) j hj
    · exact .inl (S.lb r hr' h1 j hj)
    · rw [hR.one r hr' K.row (S.mem K hK) h1] at hj; exact .inl (hb j hj)
  · intro it hit
    rcases S.way it hit with h1 | h1 | ⟨h1, h2⟩
    · exact .inl h1
    · exact .inr (.inl h1)
    · exact .inr (.inr ⟨h1, .inl h2⟩)
  · rw [put_size]; exact S.sz
  · intro t u hu
    by_cases ht : K.row.op.dst = some t
    · obtain ⟨hlt, h2⟩ := hd t ht
      refine .inr ⟨y, ?_, by rw [h2 u hu]; exact hv⟩
      rw [ht, put_tmps, Array.getElem?_setIfInBounds, if_pos rfl]
      simp [S.sz, hlt]
    · rcases S.tm t u hu with ⟨I, h1, h2, h3⟩ | ⟨x, h1, h2⟩
      · refine .inl ⟨I, h1, ?_, h3⟩
        rintro (h4 | h4)
        · exact h2 h4
        · rw [S.one I h1 K hK h4] at h3; exact ht h3
      · exact .inr ⟨x, by rw [put_get ht]; exact h1, h2.mono e⟩
  · rw [put_defers']; exact S.df.mono e
  · intro c o hc
    have hne : c ≠ b := by intro e; rw [e, hW] at hc; cases hc
    simp only [addPh]; rw [if_neg hne]; exact S.phW c o hc
  · intro it hit hl; exact S.q it hit (fun h => hl (.inl h))
  · intro it hit hl hw2
    obtain ⟨b2, obj2, v2, g1, g2, g3, g4, g5⟩ := S.made it hit (fun h => hl (.inl h)) hw2
    refine ⟨b2, obj2, v2, g1, ?_, g3, g4, g5⟩
    have hne : b2 ≠ b := by
      intro e; subst e
      exact hl (.inr (by rw [S.inj it hit K hK (fun h => hl (.inl h)) hL hw2 hw1 b2 g1 hΦ]))
    simp only [addPh]; rw [if_neg hne]; exact g2

/-! the evaluator goes on -/

theorem dstIn_of {d : Option Tmp} {m t : Nat} (hd : dstIn d m = false) (ht : has m t = true) : d ≠ some t := by
  intro e; subst e
  have : has m t = false := hd
  rw [this] at ht; cases ht

/-- of two steps of the plan the first of which is quiet -/
theorem pairOk_some {I K : PItem} (hp : pairOk I K = true) (hI : I.way ≠ 2) :
    (has K.row.bef I.row.ix = true ∨ dstIn I.row.op.dst K.row.look = false) ∧
    ((K.way = 2 ∧ has K.row.bef I.row.ix = true) ∨ (dstIn K.row.op.dst I.row.look = false ∧ ∀ d, K.row.op.dst = some d → I.row.op.dst ≠ some d)) := by
  unfold pairOk at hp
  have h0 : Nat.beq I.way 2 = false := by
    cases hb : Nat.beq I.way 2 with
    | true => exact absurd (beqT hb) hI
    | false => rfl
  rw [h0] at hp
  obtain ⟨h1, h2⟩ := bif'_true_of (b := bif' (has K.row.bef I.row.ix) true (bnot (dstIn I.row.op.dst K.row.look))) hp
  constructor
  · cases hh : has K.row.bef I.row.ix with
    | true => exact .inl rfl
    | false =>
      rw [hh] at h1
      have h1' : bnot (dstIn I.row.op.dst K.row.look) = true := h1
      rw [bnot_eq] at h1'
      exact .inr (by simpa using h1')
  · cases hk : bif' (Nat.beq K.way 2) (has K.row.bef I.row.ix) false with
    | true =>
      obtain ⟨g1, g2⟩ := bif'_true_of hk
      exact .inl ⟨beqT g1, g2⟩
    | false =>
      rw [hk] at h2
      have h2' : bif' (dstIn K.row.op.dst I.row.look) false (bnot (sameDst K.row.op.dst I.row.op.dst)) = true := h2
      cases hh : dstIn K.row.op.dst I.row.look with
      | true => rw [hh] at h2'; cases h2'
      | false =>
        rw [hh] at h2'
        have h3 : bnot (sameDst K.row.op.dst I.row.op.dst) = true := h2'
        rw [bnot_eq] at h3
        refine .inr ⟨rfl, fun d hd hi => ?_⟩
        rw [hd, hi] at h3
        have : sameDst (some d) (some d) = true := Nat.beq_refl d
        rw [this] at h3; cases h3

/-- the evaluator takes a quiet step -/
theorem Sim.stepQuiet (S : Sim P env W F ops rows L done D s h a w ι W' Φ) {K : PItem} {s' : ASt} {v : Option AV} (hI : ItemOk rows D K) (hw : K.way = 0) (hk : K.row.kind ≤ 1) (hlook : K.row.look = lookOf ops K.row.op)
    (hlooks : ∀ it ∈ done, it.row.look = lookOf ops it.row.op) (hself : dstIn K.row.op.dst K.row.look = false) (hp : ∀ I ∈ done, pairOk I K = true)
    (he : evalQ P ops K.row.op s h = some v) (hput : putS s K.row.op.dst v = some s') :
    Sim P env W F ops rows L (K :: done) (withBit D K.row.ix) s' h a w ι W' Φ := by
  have hnD : has D K.row.ix = false := by
    have := hI.ready
    unfold readyR at this
    cases hh : has D K.row.ix with
    | true => rw [hh] at this; cases this
    | false => rfl
  have hnL : ¬ L K.row.ix := fun hl => by rw [S.lD _ hl] at hnD; cases hnD
  have hnew : ∀ it ∈ done, it.row.ix ≠ K.row.ix := fun it hit e => by
    have := (S.dD K.row.ix).2 ⟨it, hit, e⟩
    rw [hnD] at this; cases this
  have hsame : s'.size = s.size ∧ s'.defers = s.defers ∧ s'.round = s.round ∧ (∀ t, K.row.op.dst ≠ some t → s'.t.at t = s.t.at t) ∧ (∀ t, K.row.op.dst = some t → t < s.size ∧ s'.t.at t = v) := by
    rcases putS_some hput with ⟨h1, rfl⟩ | ⟨k, h1, h2, rfl⟩
    · exact ⟨rfl, rfl, rfl, fun _ _ => rfl, fun t ht => by rw [h1] at ht; cases ht⟩
    · refine ⟨rfl, rfl, rfl, fun t ht => ?_, fun t ht => ?_⟩
      · show (s.t.put k v).at t = _
        rw [TT.at_put_eq, if_neg]; intro e; subst e; exact ht h1
      · rw [h1] at ht; cases ht
        exact ⟨h2, TT.at_put _ _ _⟩
  obtain ⟨e1, e2, e3, e4, e5⟩ := hsame
  have hlate : ∀ it ∈ done, ¬ L it.row.ix → (dstIn K.row.op.dst it.row.look = false ∧ ∀ d, K.row.op.dst = some d → it.row.op.dst ≠ some d) := by
    intro it hit hl
    rcases (pairOk_some (hp it hit) (late_way S hit hl)).2 with ⟨h1, _⟩ | h1
    · omega
    · exact h1
  refine ⟨?_, ?_, ?_, ?_, S.lb, ?_, ?_, ?_, ?_, ?_, ?_, ?_, S.hr, S.wW, S.phW, ?_, ?_, ?_⟩
  · intro i
    rw [has_withBit, S.dD]
    constructor
    · rintro (⟨it, h1, h2⟩ | rfl)
      · exact ⟨it, List.mem_cons_of_mem _ h1, h2⟩
      · exact ⟨K, List.mem_cons_self, rfl⟩
    · rintro ⟨it, h1, h2⟩
      rcases List.mem_cons.1 h1 with rfl | h1
      · exact .inr h2
      · exact .inl ⟨it, h1, h2⟩
  · intro it hit
    rcases List.mem_cons.1 hit with rfl | hit
    · exact hI.mem
    · exact S.mem it hit
  · intro I hI' J hJ e
    rcases List.mem_cons.1 hI' with rfl | hI2
    · rcases List.mem_cons.1 hJ with rfl | hJ2
      · rfl
      · exact absurd e.symm (hnew J hJ2)
    · rcases List.mem_cons.1 hJ with rfl | hJ2
      · exact absurd e (hnew I hI2)
      · exact S.one I hI2 J hJ2 e
  · intro i hl; exact (has_withBit _ _ _).2 (.inl (S.lD i hl))
  · intro it hit
    rcases List.mem_cons.1 hit with rfl | hit
    · exact .inl ⟨hw, hk⟩
    · exact S.way it hit
  · intro it hit h2
    rcases List.mem_cons.1 hit with rfl | hit
    · exact hself
    · exact S.self it hit h2
  · intro I hI' J hJ h1 h2 h3
    rcases List.mem_cons.1 hI' with rfl | hI2
    · rcases List.mem_cons.1 hJ with rfl | hJ2
      · exact absurd rfl h3
      · rcases (pairOk_some (hp J hJ2) h2).2 with ⟨g1, _⟩ | ⟨g1, _⟩
        · omega
        · exact .inr g1
    · rcases List.mem_cons.1 hJ with rfl | hJ2
      · exact (pairOk_some (hp I hI2) h1).1
      · exact S.pd I hI2 J hJ2 h1 h2 h3
  · rw [e1]; exact S.sz
  · intro t u hu
    by_cases ht : K.row.op.dst = some t
    · exact .inl ⟨K, List.mem_cons_self, hnL, ht⟩
    · rw [e4 t ht] at hu
      rcases S.tm t u hu with ⟨I, h1, h2, h3⟩ | h1
      · exact .inl ⟨I, List.mem_cons_of_mem _ h1, h2, h3⟩
      · exact .inr h1
  · rw [e2]; exact S.df
  · rw [e3]; exact S.rd
  · intro it hit hl hw0
    rcases List.mem_cons.1 hit with rfl | hit
    · refine ⟨v, ?_, fun d hd => ?_⟩
      · rw [evalQ_congr e3 (fun t ht => e4 t (by rw [← hlook] at ht; exact dstIn_of hself ht))]; exact he
      · rw [e1]; exact ⟨(e5 d hd).1, fun u hu => by rw [(e5 d hd).2] at hu; exact hu⟩
    · obtain ⟨v0, g1, g2⟩ := S.q it hit hl hw0
      obtain ⟨g3, g4⟩ := hlate it hit hl
      refine ⟨v0, ?_, fun d hd => ?_⟩
      · rw [evalQ_congr e3 (fun t ht => e4 t (by rw [← hlooks it hit] at ht; exact dstIn_of g3 ht))]; exact g1
      · rw [e1]
        refine ⟨(g2 d hd).1, fun u hu => (g2 d hd).2 u ?_⟩
        rw [← e4 d (fun h => g4 d h hd)]; exact hu
  · intro it hit hl hw1
    rcases List.mem_cons.1 hit with rfl | hit
    · omega
    · obtain ⟨b, obj, v0, g1, g2, g3, g4, g5⟩ := S.made it hit hl hw1
      obtain ⟨g6, g7⟩ := hlate it hit hl
      refine ⟨b, obj, v0, g1, g2, g3, g4.same fun i hi => e4 i (dstIn_of g6 (by rw [hlooks it hit]; exact look_op hi)), fun d hd => ?_⟩
      rw [e1]
      refine ⟨(g5 d hd).1, fun u hu => (g5 d hd).2 u ?_⟩
      rw [← e4 d (fun h => g7 d h hd)]; exact hu
  · intro I hI' J hJ l1 l2 w1 w2 b g1 g2
    rcases List.mem_cons.1 hI' with rfl | hI2
    · omega
    · rcases List.mem_cons.1 hJ with rfl | hJ2
      · omega
      · exact S.inj I hI2 J hJ2 l1 l2 w1 w2 b g1 g2

theorem again_some {o : Oper} {s : ASt} (ha : again P ops s h o = true) : ∃ v, evalQ P ops o s h = some v ∧ ∀ d, o.dst = some d → ∀ u, s.t.at d = some u → v = some u := by
  unfold again at ha
  cases he : evalQ P ops o s h with
  | none => rw [he] at ha; cases ha
  | some v =>
    rw [he] at ha
    refine ⟨v, rfl, fun d hd u hu => ?_⟩
    simp only [hd, hu] at ha
    cases v with
    | none => cases ha
    | some v => rw [sameV_eq 20 v u ha]

theorem againAll_mem {s : ASt} : ∀ {l : List Oper} {o : Oper}, againAll P ops s h l = true → o ∈ l → again P ops s h o = true
  | [], _, _, hm => by simp at hm
  | q :: l, o, ha, hm => by
    obtain ⟨h1, h2⟩ := bif'_true_of (b := again P ops s h q) (x := againAll P ops s h l) ha
    rcases List.mem_cons.1 hm with rfl | hm
    · exact h1
    · exact againAll_mem h2 hm

theorem kind_quiet {o : Oper} (hk : kindOf P o ≤ 1) : kindOp P o.op = kindOf P o := by
  unfold kindOf at hk ⊢
  split at hk
  · rfl
  · cases hb : Nat.beq (kindOp P o.op) 2 with
    | true =>
      rw [hb] at hk
      have hk' : 3 ≤ 1 := hk
      omega
    | false => rfl

theorem kind_made {o : Oper} (hk : kindOf P o = 2) : o.guard = none ∧ kindOp P o.op = 2 := by
  unfold kindOf at hk
  split at hk
  · rename_i hg; exact ⟨hg, hk⟩
  · cases hb : Nat.beq (kindOp P o.op) 2 with
    | true => rw [hb] at hk; cases hk
    | false =>
      rw [hb] at hk
      exact absurd hk (beqF hb)

/-- behind a step that changes memory: late quiet operations yield what they have yielded -/
theorem late_again {s s' : ASt} {h h' : AHeap} {it : PItem} {K : PRow} {but : Nat} (hm : it.row ∈ rows) (hkd : it.row.kind = kindOf P it.row.op) (hk : it.row.kind ≤ 1) (hlook : it.row.look = lookOf ops it.row.op)
    (hD : has D it.row.ix = true) (hb : has but it.row.ix = false) (hrd : s'.round = s.round) (hsame : ∀ t, K.op.dst ≠ some t → s'.t.at t = s.t.at t)
    (hd : dstIn K.op.dst it.row.look = false ∧ ∀ d, K.op.dst = some d → it.row.op.dst ≠ some d)
    (hag : againAll P ops s' h' (rereads rows D but) = true) (hq : ∃ v, evalQ P ops it.row.op s h = some v ∧ ∀ d, it.row.op.dst = some d → d < s.size ∧ ∀ u, s.t.at d = some u → v = some u) (hsz : s'.size = s.size) :
    ∃ v, evalQ P ops it.row.op s' h' = some v ∧ ∀ d, it.row.op.dst = some d → d < s'.size ∧ ∀ u, s'.t.at d = some u → v = some u := by
  obtain ⟨v, g1, g2⟩ := hq
  by_cases h1 : it.row.kind = 1
  · obtain ⟨v', g3, g4⟩ := again_some (againAll_mem hag (rereads_spec hm h1 hD hb))
    exact ⟨v', g3, fun d hd' => ⟨by rw [hsz]; exact (g2 d hd').1, g4 d hd'⟩⟩
  · have h0 : it.row.kind = 0 := by omega
    have hk0 : kindOp P it.row.op.op = 0 := by rw [kind_quiet (by omega)]; omega
    refine ⟨v, ?_, fun d hd' => ⟨by rw [hsz]; exact (g2 d hd').1, fun u hu => (g2 d hd').2 u ?_⟩⟩
    · refine evalQ_pure (h := h) hk0 ?_ h'
      rw [evalQ_congr hrd (fun t ht => hsame t (dstIn_of hd.1 (by rw [hlook]; exact ht)))]
      exact g1
    · rw [← hsame d (fun e => hd.2 d e hd')]; exact hu

/-- the evaluator makes a block ahead of its time -/
theorem Sim.stepAlloc {J : JobF} {n : Nat} (hR : RowsOk P ops n rows) (S : Sim P env W F ops rows L done D s h a w ι W' Φ) {K : PItem} {s' : ASt} {h' : AHeap} (hI : ItemOk rows D K) (hw : K.way = 1) (hk : K.row.kind = 2)
    (hre : K.re = rereads rows D 0) (hself : dstIn K.row.op.dst K.row.look = false) (hp : ∀ I ∈ done, pairOk I K = true)
    (he : opA P J ops K.row.op s h = some (s', h')) (hag : againAll P ops s' h' K.re = true) :
    ∃ W'' Φ', Sim P env W F ops rows L (K :: done) (withBit D K.row.ix) s' h' a w ι W'' Φ' := by
  have hnD : has D K.row.ix = false := by
    have := hI.ready
    unfold readyR at this
    cases hh : has D K.row.ix with
    | true => rw [hh] at this; cases this
    | false => rfl
  have hnL : ¬ L K.row.ix := fun hl => by rw [S.lD _ hl] at hnD; cases hnD
  have hnew : ∀ it ∈ done, it.row.ix ≠ K.row.ix := fun it hit e => by
    have := (S.dD K.row.ix).2 ⟨it, hit, e⟩
    rw [hnD] at this; cases this
  have hlate : ∀ it ∈ done, ¬ L it.row.ix → (dstIn K.row.op.dst it.row.look = false ∧ ∀ d, K.row.op.dst = some d → it.row.op.dst ≠ some d) := by
    intro it hit hl
    rcases (pairOk_some (hp it hit) (late_way S hit hl)).2 with ⟨h1, _⟩ | h1
    · omega
    · exact h1
  obtain ⟨hg, hko⟩ := kind_made (by rw [← (hR.row K.row hI.mem).2.2.1]; exact hk)
  have he' : Option.rec (opGo P J K.row.op s h) (fun g => obind (wantA s ops g.1 g.2) fun w => bif' w (opGo P J K.row.op s h) (keepS s K.row.op.dst (some (.tup [])) h)) K.row.op.guard = some (s', h') := he
  rw [hg] at he'
  obtain ⟨x, hx, hf⟩ := obind_eq he'
  obtain ⟨nx, h1⟩ := x
  obtain ⟨v, obj, rfl, rfl, hmk⟩ := makes_op hko hx
  obtain ⟨hput, rfl⟩ := keepS_some hf
  have hsame : s'.size = s.size ∧ s'.defers = s.defers ∧ s'.round = s.round ∧ (∀ t, K.row.op.dst ≠ some t → s'.t.at t = s.t.at t) ∧ (∀ t, K.row.op.dst = some t → t < s.size ∧ s'.t.at t = some v) := by
    rcases putS_some hput with ⟨h1, rfl⟩ | ⟨k, h1, h2, rfl⟩
    · exact ⟨rfl, rfl, rfl, fun _ _ => rfl, fun t ht => by rw [h1] at ht; cases ht⟩
    · refine ⟨rfl, rfl, rfl, fun t ht => ?_, fun t ht => ?_⟩
      · show (s.t.put k (some v)).at t = _
        rw [TT.at_put_eq, if_neg]; intro e; subst e; exact ht h1
      · rw [h1] at ht; cases ht
        exact ⟨h2, TT.at_put _ _ _⟩
  obtain ⟨e1, e2, e3, e4, e5⟩ := hsame
  have hph0 : W'.ph h.next = none := by
    cases hq : W'.ph h.next with
    | none => rfl
    | some o => have := (S.hr.ph _ _ hq).1; omega
  refine ⟨addPh W' h.next (some obj), fun i => if i = K.row.ix then some h.next else Φ i, ?_⟩
  refine ⟨?_, ?_, ?_, ?_, S.lb, ?_, ?_, ?_, ?_, ?_, ?_, ?_, S.hr.phantom obj, S.wW, ?_, ?_, ?_, ?_⟩
  · intro i
    rw [has_withBit, S.dD]
    constructor
    · rintro (⟨it, h1, h2⟩ | rfl)
      · exact ⟨it, List.mem_cons_of_mem _ h1, h2⟩
      · exact ⟨K, List.mem_cons_self, rfl⟩
    · rintro ⟨it, h1, h2⟩
      rcases List.mem_cons.1 h1 with rfl | h1
      · exact .inr h2
      · exact .inl ⟨it, h1, h2⟩
  · intro it hit
    rcases List.mem_cons.1 hit with rfl | hit
    · exact hI.mem
    · exact S.mem it hit
  · intro I hI' J hJ e
    rcases List.mem_cons.1 hI' with rfl | hI2
    · rcases List.mem_cons.1 hJ with rfl | hJ2
      · rfl
      · exact absurd e.symm (hnew J hJ2)
    · rcases List.mem_cons.1 hJ with rfl | hJ2
      · exact absurd e (hnew I hI2)
      · exact S.one I hI2 J hJ2 e
  · intro i hl; exact (has_withBit _ _ _).2 (.inl (S.lD i hl))
  · intro it hit
    rcases List.mem_cons.1 hit with rfl | hit
    · exact .inr (.inl ⟨hw, hk⟩)
    · exact S.way it hit
  · intro it hit h2
    rcases List.mem_cons.1 hit with rfl | hit
    · exact hself
    · exact S.self it hit h2
  · intro I hI' J hJ h1 h2 h3
    rcases List.mem_cons.1 hI' with rfl | hI2
    · rcases List.mem_cons.1 hJ with rfl | hJ2
      · exact absurd rfl h3
      · rcases (pairOk_some (hp J hJ2) h2).2 with ⟨g1, _⟩ | ⟨g1, _⟩
        · omega
        · exact .inr g1
    · rcases List.mem_cons.1 hJ with rfl | hJ2
      · exact (pairOk_some (hp I hI2) h1).1
      · exact S.pd I hI2 J hJ2 h1 h2 h3
  · rw [e1]; exact S.sz
  · intro t u hu
    by_cases ht : K.row.op.dst = some t
    · exact .inl ⟨K, List.mem_cons_self, hnL, ht⟩
    · rw [e4 t ht] at hu
      rcases S.tm t u hu with ⟨I, h1, h2, h3⟩ | h1
      · exact .inl ⟨I, List.mem_cons_of_mem _ h1, h2, h3⟩
      · exact .inr h1
  · rw [e2]; exact S.df
  · rw [e3]; exact S.rd
  · intro b o hb
    have := S.phW b o hb
    have hne : b ≠ h.next := by intro e; rw [e, hph0] at this; cases this
    simp only [addPh]; rw [if_neg hne]; exact this
  · intro it hit hl hw0
    rcases List.mem_cons.1 hit with rfl | hit
    · omega
    · have hrow := hR.row it.row (S.mem it hit)
      have hkk : it.row.kind ≤ 1 := by
        rcases S.way it hit with ⟨_, g⟩ | ⟨g, _⟩ | ⟨g, _⟩
        · exact g
        · omega
        · omega
      rw [hre] at hag
      exact late_again (K := K.row) (S.mem it hit) hrow.2.2.1 hkk hrow.2.2.2.2 ((S.dD _).2 ⟨it, hit, rfl⟩) (has_zero _) e3 e4 (hlate it hit hl) hag (S.q it hit hl hw0) e1
  · intro it hit hl hw1
    rcases List.mem_cons.1 hit with rfl | hit
    · refine ⟨h.next, obj, v, by simp, by simp [addPh], ?_, ?_, fun d hd => ?_⟩
      · cases hq : W.ph h.next with
        | none => rfl
        | some o => rw [S.phW _ _ hq] at hph0; cases hph0
      · have hm : MakesOp P it.row.op s.t h.next obj v := fun env w ι ρ ro t' hb h1 h2 => hmk env w ι ρ ro t' hb h1 h2
        exact hm.same fun i hi => e4 i (dstIn_of hself (by rw [(hR.row it.row hI.mem).2.2.2.2]; exact look_op hi))
      · rw [e1]; exact ⟨(e5 d hd).1, fun u hu => by rw [(e5 d hd).2] at hu; cases hu; rfl⟩
    · obtain ⟨b, obj2, v0, g1, g2, g3, g4, g5⟩ := S.made it hit hl hw1
      obtain ⟨g6, g7⟩ := hlate it hit hl
      have hlook := (hR.row it.row (S.mem it hit)).2.2.2.2
      have hne : b ≠ h.next := by intro e; rw [e, hph0] at g2; cases g2
      refine ⟨b, obj2, v0, ?_, ?_, g3, g4.same fun i hi => e4 i (dstIn_of g6 (by rw [hlook]; exact look_op hi)), fun d hd => ?_⟩
      · show (if it.row.ix = K.row.ix then some h.next else Φ it.row.ix) = some b
        rw [if_neg (hnew it hit)]; exact g1
      · simp only [addPh]; rw [if_neg hne]; exact g2
      · rw [e1]
        refine ⟨(g5 d hd).1, fun u hu => (g5 d hd).2 u ?_⟩
        rw [← e4 d (fun h => g7 d h hd)]; exact hu
  · intro I hI' J hJ l1 l2 w1 w2 b g1 g2
    have lt : ∀ it ∈ done, ¬ L it.row.ix → it.way = 1 → Φ it.row.ix ≠ some h.next := by
      intro it hit hl hw1 hh
      obtain ⟨b2, obj2, _, k1, k2, _⟩ := S.made it hit hl hw1
      rw [k1] at hh; cases hh
      rw [hph0] at k2; cases k2
    rcases List.mem_cons.1 hI' with rfl | hI2
    · rcases List.mem_cons.1 hJ with rfl | hJ2
      · rfl
      · simp only [if_true] at g1; cases g1
        rw [if_neg (hnew J hJ2)] at g2
        exact absurd g2 (lt J hJ2 l2 w2)
    · rcases List.mem_cons.1 hJ with rfl | hJ2
      · simp only [if_true] at g2; cases g2
        rw [if_neg (hnew I hI2)] at g1
        exact absurd g1 (lt I hI2 l1 w1)
      · rw [if_neg (hnew I hI2)] at g1
        rw [if_neg (hnew J hJ2)] at g2
        exact S.inj I hI2 J hJ2 l1 l2 w1 w2 b g1 g2

end
end Go.Ab
