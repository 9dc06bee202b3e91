/- A region that draws its order: the evaluator's plan stands for every order (4). -/
import Derived.Test.YtdakmcoggmlglaaGreatAbDraw5
set_option linter.all false
namespace Go.Ab
open Go.RowKit
noncomputable section

variable {P : Program} {env : Nat → Value} {W W' : Base} {w : World} {ι : Inj} {h h' : AHeap} {F : Fence} {ops : List Oper} {rows : List PRow}
  {done : List PItem} {D : Nat} {s : ASt} {a : Act} {Φ : Nat → Option Nat}

def Lst (listed : Array Bool) (i : Nat) : Prop := listed.getD i false = true

theorem Lst_set {n i : Nat} {listed : Array Bool} (hi : i < n) (hs : listed.size = n) : Lst (listed.setIfInBounds i true) = fun j => Lst listed j ∨ j = i := by
  funext j
  apply propext
  unfold Lst
  by_cases e : j = i
  · subst e
    simp [hs, hi]
  · rw [getD_set_ne false (fun h => e h.symm)]
    simp [e]

/-- the end: all is listed -/
theorem Stand.fin {J : JobF} {listed : Array Bool} {rest : List PItem} (hR : RowsOk P ops ops.length rows) {sf : ASt} {hf : AHeap} (hall : ∀ i, i < ops.length → Lst listed i)
    (hs : Stand P J env W F ops rows (Lst listed) a w ι sf hf done D rest) : SR env P ι F sf a ∧ HR env W ι hf w := by
  obtain ⟨done, D, rest, hs, hrest⟩ := hs.advance hR
  obtain ⟨s, h, W', Φ, S, hp, _, _, hrun⟩ := hs
  have hnil : rest = [] := by
    rcases hrest with h | ⟨K, r, rfl, _⟩
    · exact h
    · cases hp with
      | cons _ _ _ hI _ =>
        have hL := hall K.row.ix (hR.row K.row hI.mem).1
        have hD := S.lD _ hL
        have := hI.ready
        unfold readyR at this
        rw [hD] at this; cases this
  subst hnil
  cases hrun
  refine ⟨⟨⟨S.sz, fun t v hv => ?_⟩, S.df, S.rd⟩, S.hr.lessPh S.wW S.phW⟩
  rcases S.tm t v hv with ⟨it, h1, h2, _⟩ | h1
  · exact absurd (hall _ (hR.row it.row (S.mem it h1)).1) h2
  · exact h1

theorem draw_main {J : JobF} (hJ : JOk P J) (hF : Wd F) (hR : RowsOk P ops ops.length rows) (hout : wayOut rows = true) {md : Region.Mode} {m : Nat} {Q : Exit → Act → World → Prop} {sf : ASt} {hf : AHeap} :
    ∀ (fuel : Nat) (listed : Array Bool) (a : Act) (w : World) (ι : Inj) (done : List PItem) (D : Nat) (rest : List PItem), listed.size = ops.length → unl ops.length listed ≤ fuel →
      Stand P J env W F ops rows (Lst listed) a w ι sf hf done D rest → (∀ ι' a' w', Ext ι ι' → SR env P ι' F sf a' → HR env W ι' hf w' → Q .normal a' w') →
      wpAnyIn F m P md ops.toArray Q fuel listed a w := by
  -- nothing is ready: all is listed
  have stuck : ∀ (listed : Array Bool), listed.size = ops.length → Region.ready md ops.toArray listed = [] → ∀ i, i < ops.length → Lst listed i := by
    intro listed hsz hnil i hi
    have hall : allIn rows (reachN (modeEdge md) rows 4) = true := by
      have h0 : bif' (allIn rows (reachN bindsAny rows 4)) (bif' (allIn rows (reachN bindsText rows 4)) (allIn rows (reachN bindsGc rows 4)) false) false = true := hout
      obtain ⟨h1, h2⟩ := bif'_true_of h0
      obtain ⟨h3, h4⟩ := bif'_true_of h2
      cases md
      · exact h3
      · exact h4
      · exact h1
    obtain ⟨r, hr, hri⟩ := hR.all i hi
    have hin := allIn_spec hall r hr
    rw [hri] at hin
    refine reachN_sub (L := Lst listed) (fun q hq hpre => ?_) 4 i hin
    cases hl : listed.getD q.ix false with
    | true => exact hl
    | false =>
      exfalso
      have hq' := hR.row q hq
      have hmem : q.ix ∈ Region.ready md ops.toArray listed := by
        rw [mem_ready]
        refine ⟨?_, q.op, by simpa using hq'.2.1, fun e he hb => ?_⟩
        · have hlt : q.ix < listed.size := by rw [hsz]; exact hq'.1
          simp [hlt] at hl ⊢; exact hl
        · cases hm : modeEdge md e with
          | true => exact hpre e (Array.mem_toList_iff.2 he) hm
          | false => rw [binds_mode md e hm] at hb; cases hb
      rw [hnil] at hmem; simp at hmem
  intro fuel
  induction fuel with
  | zero =>
    intro listed a w ι done D rest hsz hfu hs hQ
    have hall : ∀ i, i < ops.length → Lst listed i := fun i hi => unl_zero (by omega) i hi
    obtain ⟨h1, h2⟩ := hs.fin hR hall
    refine ⟨?_, hQ ι a w (.refl ι) h1 h2⟩
    cases hr : Region.ready md ops.toArray listed with
    | nil => rfl
    | cons i l =>
      have hm : i ∈ Region.ready md ops.toArray listed := by rw [hr]; simp
      obtain ⟨h3, o, ho, _⟩ := mem_ready.1 hm
      have hi : i < ops.length := by
        rcases Nat.lt_or_ge i ops.length with h | h
        · exact h
        · simp [List.getElem?_eq_none h] at ho
      have := hall i hi
      unfold Lst at this
      have hlt : i < listed.size := by rw [hsz]; exact hi
      simp [hlt] at h3 this
      rw [this] at h3; cases h3
  | succ fuel ih =>
    intro listed a w ι done D rest hsz hfu hs hQ
    refine ⟨fun hnil => ?_, fun i hi => ?_⟩
    · obtain ⟨h1, h2⟩ := hs.fin hR (stuck listed hsz hnil)
      exact hQ ι a w (.refl ι) h1 h2
    · obtain ⟨hun, o, ho, hpre⟩ := mem_ready.1 hi
      have ho' : ops[i]? = some o := by simpa using ho
      have hlt : i < ops.length := by
        rcases Nat.lt_or_ge i ops.length with h | h
        · exact h
        · rw [List.getElem?_eq_none h] at ho'; cases ho'
      have hlt' : i < listed.size := by rw [hsz]; exact hlt
      have hunf : listed.getD i false = false := by simp [hlt'] at hun ⊢; exact hun
      have hnL : ¬ Lst listed i := fun h => by unfold Lst at h; rw [hunf] at h; cases h
      obtain ⟨done, D, rest, hs, hrest⟩ := hs.advance hR
      obtain ⟨s, h, W', Φ, S, hp, hpr, hps, hrun⟩ := hs
      obtain ⟨r, hr, hri⟩ := hR.all i hlt
      have hrow := hR.row r hr
      have hrop : r.op = o := by
        have := hrow.2.1; rw [hri, ho'] at this; exact (Option.some.inj this).symm
      have hbef : ∀ j, has r.bef j = true → Lst listed j := by
        intro j hj
        have hdep : ∀ k, has r.dep k = true → Lst listed k := by
          intro k hk
          rw [hrow.2.2.2.1] at hk
          obtain ⟨e, he, hb, rfl⟩ := edgeMask_spec.1 hk
          rw [hrop] at he
          exact hpre e (Array.mem_toList_iff.1 he) (binds_any md e hb)
        rcases hR.bef r hr j hj with h1 | ⟨r', h1, h2, h3⟩
        · exact hdep j h1
        · exact S.lb r' h1 (hdep _ h2) j h3
      have hsz2 : (listed.setIfInBounds i true).size = ops.length := by rw [Array.size_setIfInBounds]; exact hsz
      have hfu2 : unl ops.length (listed.setIfInBounds i true) ≤ fuel := by have := unl_set hlt hsz hunf; omega
      have hset := Lst_set (listed := listed) hlt hsz
      have next : ∀ {ι' : Inj} {a' : Act} {w' : World} {done' : List PItem} {D' : Nat} {rest' : List PItem}, Ext ι ι' → Stand P J env W F ops rows (fun j => Lst listed j ∨ j = r.ix) a' w' ι' sf hf done' D' rest' →
          wpAnyIn F m P md ops.toArray Q fuel (listed.setIfInBounds i true) a' w' := by
        intro ι' a' w' done' D' rest' e hst
        refine ih _ a' w' ι' done' D' rest' hsz2 hfu2 ?_ fun ι'' a'' w'' e' => hQ ι'' a'' w'' (e.trans e')
        rw [hset, ← hri]; exact hst
      cases hD : has D i with
      | true =>
        obtain ⟨K, hK, hKi⟩ := (S.dD i).1 hD
        have hKr : K.row = r := hR.one K.row (S.mem K hK) r hr (by rw [hKi, hri])
        subst hKr
        have hnL' : ¬ Lst listed K.row.ix := by rw [hri]; exact hnL
        have hlook := S.late hK hnL' hbef
        rw [hrow.2.2.2.2] at hlook
        rcases S.way K hK with ⟨hw, hkd⟩ | ⟨hw, hkd⟩ | ⟨_, hl⟩
        · obtain ⟨v, g1, g2⟩ := S.q K hK hnL' hw
          have hkk : Nat.ble (kindOp P K.row.op.op) 1 = true := by
            have h1 : kindOf P K.row.op ≤ 1 := by rw [← hrow.2.2.1]; exact hkd
            rw [kind_quiet h1]
            exact Nat.ble_eq_true_of_le h1
          refine evalQ_wp hF S.hr (by rw [← hri]; exact hrow.2.1) hkk S.rd hlook g1 fun ι' w' y e hr' hv => ?_
          exact next e ⟨s, h, W', Φ, S.quiet hR hK hnL' hbef e hr' hv g2, hp, hpr, hps, hrun⟩
        · obtain ⟨b, obj, v, g1, g2, g3, g4, g5⟩ := S.made K hK hnL' hw
          obtain ⟨hg, hko⟩ := kind_made (by rw [← hrow.2.2.1]; exact hkd)
          have hkn := knows_look (a := a) (env := env) (ι := ι) hrow.2.2.2.2 (t := s.t) (by rw [hrow.2.2.2.2]; exact hlook)
          obtain ⟨y, x, sz, k, q1, q2, q3⟩ := g4 env w ι a.eval F.round s.t (S.hr.ph b obj g2).2.1 (fun _ _ => rfl) hkn
          unfold wpOpIn
          have hoK : ops.toArray[i]? = some K.row.op := by rw [ho, hrop]
          simp only [hoK]
          rw [if_pos (by simp [Region.wanted, hg])]
          refine ⟨fun f _ => hF.fn f, ?_⟩
          rw [q1]
          exact next (Ext.add (S.hr.ph b obj g2).2.1) ⟨s, h, _, Φ, S.alloc hR hK hnL' hbef hw g1 g2 g3 q2 q3 g5, hp, hpr, hps, hrun⟩
        · exact absurd hl hnL'
      | false =>
        have hready : readyR D r = true := by
          unfold readyR
          rw [hri, hD]
          show within r.dep D = true
          refine within_of fun k hk => S.lD k ?_
          rw [hrow.2.2.2.1] at hk
          obtain ⟨e, he, hb, rfl⟩ := edgeMask_spec.1 hk
          rw [hrop] at he
          exact hpre e (Array.mem_toList_iff.1 he) (binds_any md e hb)
        rcases hrest with rfl | ⟨K, rest2, rfl, hw⟩
        · cases hp with
          | nil _ hall => have := hall r hr; rw [hri, hD] at this; cases this
        · cases hp with
          | cons _ _ _ hI hp2 =>
            obtain ⟨_, hpk, hps2⟩ := pairsOk_cons hps
            rcases hI.way with ⟨h1, _⟩ | ⟨h1, _⟩ | ⟨_, hre, huniq⟩
            · omega
            · omega
            · have hKr := huniq r hr hready
              subst hKr
              have hpair : ∀ I ∈ done, pairOk I K = true := fun I hI' => hpr I hI' K List.mem_cons_self
              obtain ⟨p, hp1, hrun2⟩ := obind_eq hrun
              obtain ⟨s1, h1⟩ := p
              unfold runItem at hp1
              have hb0 : Nat.beq K.way 0 = false := by rw [hw]; rfl
              rw [hb0] at hp1
              obtain ⟨p, hop, hk2⟩ := obind_eq hp1
              rcases bif'_some hk2 with ⟨hag, h3⟩ | ⟨_, h3⟩
              case inr => cases h3
              cases h3
              have hlook := S.known hbef fun I hI' hLI => (pairOk_some (hpair I hI') (late_way S hI' hLI)).1
              obtain ⟨v, ds, hput, hK⟩ := opA_wp (i := i) hJ hF S.hr (by rw [← hri]; exact hrow.2.1) hrow.2.2.2.2 S.rd hlook hop
              refine hK m _ Q fun ι' w' y Ds e hr' hv hds => ?_
              refine next e ⟨s1, h1, W', Φ, S.stepLoud hR hI hw hre hbef hpair hput hag e hr' hv hds, hp2, ?_, hps2, hrun2⟩
              intro I hI' K' hK'
              rcases List.mem_cons.1 hI' with rfl | hI'
              · exact hpk K' hK'
              · exact hpr I hI' K' (List.mem_cons_of_mem _ hK')

/-- a region that draws its order -/
theorem drawn_wp {J : JobF} (hJ : JOk P J) (hF : Wd F) {pl : List PItem} (hpl : planOf P ops = some pl) {sf : ASt} {hf : AHeap} (hrun : runPlan P J ops pl s h = some (sf, hf)) (r : SR env P ι F s a) (hr : HR env W ι h w)
    {m : Nat} {Q : Exit → Act → World → Prop} (hQ : ∀ ι' a' w', Ext ι ι' → SR env P ι' F sf a' → HR env W ι' hf w' → Q .normal a' w') {id : Nat} :
    (Code.region id ops.toArray true).wpIn F m P Q a w := by
  unfold planOf at hpl
  rcases bif'_some hpl with ⟨hout, h1⟩ | ⟨_, h1⟩
  case inr => cases h1
  obtain ⟨pl', hgo, h2⟩ := obind_eq h1
  rcases bif'_some h2 with ⟨hps, h3⟩ | ⟨_, h3⟩
  case inr => cases h3
  cases h3
  have hR := rowsOf_ok P ops
  have hr1 := hr.drew (w.drawn + 1)
  have h0 : ∀ i, ¬ Lst (Array.replicate ops.length false) i := by
    intro i
    unfold Lst
    simp [Array.getElem?_replicate]
    split <;> simp
  have S : Sim P env W F ops (rowsOf P ops) (Lst (Array.replicate ops.length false)) [] 0 s h a { w with drawn := w.drawn + 1 } ι W (fun _ => none) :=
    ⟨fun i => by rw [has_zero]; simp, fun _ h => by simp at h, fun _ h => by simp at h, fun i h => absurd h (h0 i), fun _ _ h => absurd h (h0 _), fun _ h => by simp at h, fun _ h => by simp at h,
      fun _ h => by simp at h, r.tmps.size, fun t v hv => .inr (r.tmps.at_ t v hv), r.defers, r.rd, hr1, rfl, fun _ _ h => h, fun _ h => by simp at h, fun _ h => by simp at h, fun _ h => by simp at h⟩
  have hst : Stand P J env W F ops (rowsOf P ops) (Lst (Array.replicate ops.length false)) a { w with drawn := w.drawn + 1 } ι sf hf [] 0 pl :=
    ⟨s, h, W, _, S, planGo_ok _ _ _ hgo, fun _ h => by simp at h, hps, hrun⟩
  have main : ∀ md, wpAnyIn F m P md ops.toArray Q ops.length (Array.replicate ops.length false) a { w with drawn := w.drawn + 1 } := fun md =>
    draw_main hJ hF hR hout ops.length _ a _ ι [] 0 pl (by simp) (by
      unfold unl
      have := List.countP_le_length (p := fun i => !((Array.replicate ops.length false).getD i false)) (l := List.range ops.length)
      simpa using this) hst hQ
  refine wpIn_region_draw fun t => ?_
  have lin : ∀ md t, wpOpsIn F m P ops.toArray Q (Region.linearise md ops.toArray t) a { w with drawn := w.drawn + 1 } := fun md t => by
    unfold Region.linearise
    have := wpAnyIn_sound (md := md) ops.length t _ a _ (main md)
    simpa using this
  unfold Region.schedule
  split
  · exact lin _ _
  · exact lin _ _

end
end Go.Ab
