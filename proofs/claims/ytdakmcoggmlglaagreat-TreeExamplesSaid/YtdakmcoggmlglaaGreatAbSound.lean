/- Code: what the evaluator says holds of the machine. -/
import Derived.Test.YtdakmcoggmlglaaGreatAbEval
import Derived.Test.YtdakmcoggmlglaaGreatAbDraw6
import Derived.RangeFuncLeaves
import Derived.Scope
set_option linter.all false
namespace Go.Ab
open Go.RowKit
noncomputable section

variable {P : Program} {env : Nat → Value} {W : Base} {w : World} {ι : Inj} {h h' : AHeap} {F : Fence}

def exitOf : AExit → Exit
  | .normal => .normal
  | .exit id => .exit id
  | .goto l => .goto l
  | .ret => .ret

/-- behind the code: how it is left, and what it has left -/
def PostOk (P : Program) (env : Nat → Value) (W : Base) (F : Fence) (ι : Inj) (p : AExit × ASt × AHeap) (Q : Exit → Act → World → Prop) : Prop :=
  ∀ ι' a' w', Ext ι ι' → SR env P ι' F p.2.1 a' → HR env W ι' p.2.2 w' → Q (exitOf p.1) a' w'

def RunOk (P : Program) (c : Code) (f : Run) : Prop :=
  ∀ (F : Fence), Wd F → ∀ (env : Nat → Value) (W : Base) (n : Nat) (s : ASt) (h : AHeap) (p : AExit × ASt × AHeap), f s h = some p → ∀ (ι : Inj) (a : Act) (w : World) (Q : Exit → Act → World → Prop),
    SR env P ι F s a → HR env W ι h w → PostOk P env W F ι p Q → c.wpIn F n P Q a w

theorem wpIn_scope {n : Nat} {c : Code} {Q : Exit → Act → World → Prop} {a : Act} {w : World} (h : c.wpIn F n P (Exit.noGoto Q) a w) : (Code.scope c).wpIn F n P Q a w := by
  intro b k cs hro hb hr
  have s1 : step P (lone (b.atR a (.code (.scope c) :: k)) cs w) = .next (lone (b.atR a (.code c :: .inScope c :: k)) cs w) := step_lone_go (by simp [stepG, stepG.exec, Frame.atR])
  have s2 : ∀ a w, step P (lone (b.atR a (.inScope c :: k)) cs w) = .next (lone (b.atR a k) cs w) := fun a w => step_lone_go (by simp [stepG, stepG.exec, Frame.atR])
  have h0 : (lone (b.atR a (.code (.scope c) :: k)) cs w).fenced P F := fenced_calm hb hr rfl
  obtain ⟨e, a₁, w₁, hq, harr⟩ := h b (.inScope c :: k) cs hro hb hr
  cases e with
  | normal => exact ⟨.normal, a₁, w₁, hq, .head h0 s1 (StepsIn.trans harr (.one (fenced_calm (fr := b.atR a₁ (.inScope c :: k)) hb hr rfl) (s2 a₁ w₁)))⟩
  | exit id =>
    have hx : exitTo id (.inScope c :: k) = exitTo id k := by simp [exitTo]
    exact ⟨.exit id, a₁, w₁, hq, fun k' hk => .head h0 s1 (harr.1 k' (by rw [hx]; exact hk)),
      fun hr' hk => let ⟨k₁, h1, h2⟩ := harr.2 hr' (by rw [hx]; exact hk); ⟨k₁, h1, .head h0 s1 h2⟩⟩
  | goto l => exact hq.elim
  | ret => exact ⟨_, a₁, w₁, hq, .of_steps (.one h0 s1) harr⟩
  | panic ch => exact ⟨_, a₁, w₁, hq, .of_steps (.one h0 s1) harr⟩
  | outgrown => exact ⟨_, a₁, w₁, hq, .of_steps (.one h0 s1) harr⟩

theorem run_seq {x y : Code} {f g : Run} (hx : RunOk P x f) (hy : RunOk P y g) (a b : Code) : RunOk P (.seq x y) (cSeq a b f g) := by
  intro F hF env W n s h p hp ι act w Q r hr hQ
  obtain ⟨q, hq, h2⟩ := obind_eq hp
  obtain ⟨e, s1, h1⟩ := q
  refine wpIn_seq (hx F hF env W n s h _ hq ι act w _ r hr fun ι' a' w' ex r' hr' => ?_)
  cases e with
  | normal => exact hy F hF env W n s1 h1 p h2 ι' a' w' Q r' hr' fun ι'' a'' w'' ex' => hQ ι'' a'' w'' (ex.trans ex')
  | exit id => cases h2; exact hQ ι' a' w' ex r' hr'
  | goto l => cases h2; exact hQ ι' a' w' ex r' hr'
  | ret => cases h2; exact hQ ι' a' w' ex r' hr'

theorem run_cond {c : Operand} {x y : Code} {f g : Run} (hx : RunOk P x f) (hy : RunOk P y g) (a b : Code) : RunOk P (.cond c x y) (cCond c a b f g) := by
  intro F hF env W n s h p hp ι act w Q r hr hQ
  obtain ⟨v, hv, h2⟩ := obind_eq hp
  rw [tmpsOf_eq] at hv
  have hk := knows_of r.tmps.at_ c v hv
  cases v <;> first | (cases h2; done) | skip
  rename_i t
  have hc : act.eval c = .bool t := by
    generalize act.eval c = z at hk
    cases hk; rfl
  cases t with
  | true => exact wpIn_cond_true hc (hx F hF env W n s h p h2 ι act w Q r hr hQ)
  | false => exact wpIn_cond_false hc (hy F hF env W n s h p h2 ι act w Q r hr hQ)

theorem run_block {id : Nat} {x : Code} {f : Run} (hx : RunOk P x f) (a : Code) : RunOk P (.block id x) (cBlock id a f) := by
  intro F hF env W n s h p hp ι act w Q r hr hQ
  obtain ⟨q, hq, h2⟩ := obind_eq hp
  obtain ⟨e, s1, h1⟩ := q
  refine wpIn_block (hx F hF env W n s h _ hq ι act w _ r hr fun ι' a' w' ex r' hr' => ?_)
  cases e with
  | normal => cases h2; exact hQ ι' a' w' ex r' hr'
  | exit i =>
    have h2' : bif' (Nat.beq i id) (some (AExit.normal, s1, h1)) (some (AExit.exit i, s1, h1)) = some p := h2
    simp only [exitOf, Exit.inBlock]
    rcases bif'_some h2' with ⟨hb, h3⟩ | ⟨hb, h3⟩
    · rw [if_pos (beqT hb)]; cases h3; exact hQ ι' a' w' ex r' hr'
    · rw [if_neg (beqF hb)]; cases h3; exact hQ ι' a' w' ex r' hr'
  | goto l => cases h2; exact hQ ι' a' w' ex r' hr'
  | ret => cases h2; exact hQ ι' a' w' ex r' hr'

theorem run_scope {x : Code} {f : Run} (hx : RunOk P x f) (a : Code) : RunOk P (.scope x) (cScope a f) := by
  intro F hF env W n s h p hp ι act w Q r hr hQ
  obtain ⟨q, hq, h2⟩ := obind_eq hp
  obtain ⟨e, s1, h1⟩ := q
  refine wpIn_scope (hx F hF env W n s h _ hq ι act w _ r hr fun ι' a' w' ex r' hr' => ?_)
  cases e with
  | normal => cases h2; exact hQ ι' a' w' ex r' hr'
  | exit id => cases h2; exact hQ ι' a' w' ex r' hr'
  | goto l => cases h2
  | ret => cases h2; exact hQ ι' a' w' ex r' hr'

/-- the rounds of a loop, from the first one's body on -/
def Body (F : Fence) (n : Nat) (P : Program) (c : Code) (Q : Exit → Act → World → Prop) (a : Act) (w : World) : Prop :=
  ∀ (b : Frame) (k : List Item) (cs : List Frame), b.roundOf = F.round → F.fn b.fn → F.room (cs.length + 1 + n) →
    ∃ e a' w', Q e a' w' ∧ ArrivesIn (Machine.fenced P F) P (lone (b.atR a (.code c :: .inLoop c :: k)) cs w) b k cs e a' w'

theorem body_of {n : Nat} {c : Code} {Q : Exit → Act → World → Prop} {a : Act} {w : World} (h : c.wpIn F n P (Exit.then (Body F n P c Q) Q) a w) : Body F n P c Q a w := by
  intro b k cs hro hb hr
  obtain ⟨e, a₁, w₁, hq, harr⟩ := h b (.inLoop c :: k) cs hro hb hr
  cases e with
  | normal =>
    obtain ⟨e₂, a₂, w₂, hq₂, harr₂⟩ := hq b k cs hro hb hr
    exact ⟨e₂, a₂, w₂, hq₂, .of_steps (StepsIn.trans harr (.one (fenced_calm (fr := b.atR a₁ (.inLoop c :: k)) hb hr rfl) stepR_inLoop)) harr₂⟩
  | exit id => exact ⟨_, a₁, w₁, hq, .pass (x := .inLoop c) rfl (fun _ _ => .inl (by simp)) harr⟩
  | goto l => exact ⟨_, a₁, w₁, hq, .pass (x := .inLoop c) rfl (fun _ _ => .inl (by simp)) harr⟩
  | ret => exact ⟨_, a₁, w₁, hq, .pass (x := .inLoop c) rfl (fun _ _ => .inl (by simp)) harr⟩
  | panic ch => exact ⟨_, a₁, w₁, hq, .pass (x := .inLoop c) rfl (fun _ _ => .inl (by simp)) harr⟩
  | outgrown => exact ⟨_, a₁, w₁, hq, .pass (x := .inLoop c) rfl (fun _ _ => .inl (by simp)) harr⟩

theorem loop_of {n : Nat} {c : Code} {Q : Exit → Act → World → Prop} {a : Act} {w : World} (h : Body F n P c Q a w) : (Code.loop c).wpIn F n P Q a w := by
  intro b k cs hro hb hr
  obtain ⟨e, a', w', hq, harr⟩ := h b k cs hro hb hr
  exact ⟨e, a', w', hq, .of_steps (.one (fenced_calm (fr := b.atR a (.code (.loop c) :: k)) hb hr rfl) stepR_loop) harr⟩

theorem run_loop {x : Code} {f : Run} (hx : RunOk P x f) (L : Nat) (a : Code) : RunOk P (.loop x) (cLoop L a f) := by
  intro F hF env W n s h p hp ι act w Q r hr hQ
  refine loop_of ?_
  have key : ∀ (L : Nat) (s : ASt) (h : AHeap), loopN f L s h = some p → ∀ (ι : Inj) (act : Act) (w : World), SR env P ι F s act → HR env W ι h w → PostOk P env W F ι p Q → Body F n P x Q act w := by
    intro L
    induction L with
    | zero => intro s h hp; cases hp
    | succ L ih =>
      intro s h hp ι act w r hr hQ
      have hp' : obind (f s h) (fun p => AExit.rec (motive := fun _ => Out) (loopN f L p.2.1 p.2.2) (fun _ => some p) (fun _ => some p) (some p) p.1) = some p := hp
      obtain ⟨q, hq, h2⟩ := obind_eq hp'
      obtain ⟨e, s1, h1⟩ := q
      refine body_of (hx F hF env W n s h _ hq ι act w _ r hr fun ι' a' w' ex r' hr' => ?_)
      cases e with
      | normal => exact ih s1 h1 h2 ι' a' w' r' hr' fun ι'' a'' w'' ex' => hQ ι'' a'' w'' (ex.trans ex')
      | exit id => cases h2; exact hQ ι' a' w' ex r' hr'
      | goto l => cases h2; exact hQ ι' a' w' ex r' hr'
      | ret => cases h2; exact hQ ι' a' w' ex r' hr'
  exact key L s h hp ι act w r hr hQ

theorem run_region {J : JobF} (hJ : JOk P J) (id : Nat) (ops : Array Oper) (draw : Bool) : RunOk P (.region id ops draw) (cRegion P J id ops draw) := by
  intro F hF env W n s h p hp ι act w Q r hr hQ
  have eops : ops.toList.toArray = ops := by simp
  cases draw with
  | true =>
    have hp' : obind (planOf P ops.toList) (fun pl => obind (runPlan P J ops.toList pl s h) fun p => some (AExit.normal, p)) = some p := hp
    obtain ⟨pl, hpl, h1⟩ := obind_eq hp'
    obtain ⟨q, hq, h2⟩ := obind_eq h1
    cases h2
    have := drawn_wp (m := n) (id := id) (Q := Q) hJ hF hpl hq r hr hQ
    rwa [eops] at this
  | false =>
    have hp' : obind (opsA P J ops.toList ops.toList s h) (fun p => some (AExit.normal, p)) = some p := hp
    obtain ⟨q, hq, h2⟩ := obind_eq hp'
    cases h2
    have := opsA_wp (n := n) (Q := Q) hJ hF 0 ops.toList (fun i => by simp) (by simp) r hr hq hQ
    refine wpIn_region ?_
    rw [eops] at this
    simpa using this

end
end Go.Ab
