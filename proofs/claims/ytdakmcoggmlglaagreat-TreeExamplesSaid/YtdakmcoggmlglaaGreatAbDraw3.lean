/- A region that draws its order: the evaluator's plan stands for every order. -/
import Derived.Test.YtdakmcoggmlglaaGreatAbDraw2
import Derived.OrdersIn
set_option linter.all false
namespace Go.Ab
open Go.RowKit
noncomputable section

variable {P : Program} {env : Nat → Value} {W W' : Base} {w : World} {ι : Inj} {h h' : AHeap} {F : Fence} {ops : List Oper}

theorem sameRow_eq {same : AV → AV → Bool} (hs : ∀ x y, same x y = true → x = y) : ∀ (r q : Row), sameRow same r q = true → r = q
  | [], [], _ => rfl
  | [], _ :: _, h => by cases h
  | _ :: _, [], h => by cases h
  | a :: r, b :: q, h => by
    cases a with
    | one v => cases b with
      | one u =>
        obtain ⟨h1, h2⟩ := bif'_true_of (b := same v u) (x := sameRow same r q) h
        rw [hs v u h1, sameRow_eq hs r q h2]
      | bytes m M => cases h
    | bytes n N => cases b with
      | one u => cases h
      | bytes m M =>
        obtain ⟨h1, h2⟩ := bif'_true_of (b := Nat.beq n m) (x := bif' (Nat.beq N M) (sameRow same r q) false) h
        obtain ⟨h3, h4⟩ := bif'_true_of h2
        rw [beqT h1, beqT h3, sameRow_eq hs r q h4]

theorem sameV_eq : ∀ (n : Nat) (x y : AV), sameV n x y = true → x = y
  | 0, _, _, h => by cases h
  | n + 1, x, y, h => by
    have ih := sameV_eq n
    cases x <;> cases y <;> first | (cases h; done) | rfl | skip
    case bool.bool a b =>
      have h' : beqB a b = true := h
      rw [beqB_eq] at h'; rw [beq_iff_eq.1 h']
    case int.int k a k' b =>
      obtain ⟨h1, h2⟩ := bif'_true_of (b := Nat.beq (kidx k) (kidx k')) (x := ieq a b) h
      rw [kidx_inj h1, (ieq_iff a b).1 h2]
    case str.str a b c d =>
      obtain ⟨h1, h2⟩ := bif'_true_of (b := Nat.beq a c) (x := Nat.beq b d) h
      rw [beqT h1, beqT h2]
    case ptr.ptr a b c d =>
      obtain ⟨h1, h2⟩ := bif'_true_of (b := Nat.beq a c) (x := Nat.beq b d) h
      rw [beqT h1, beqT h2]
    case slice.slice a b c d a' b' c' d' =>
      obtain ⟨h1, h2⟩ := bif'_true_of (b := Nat.beq a a') (x := bif' (Nat.beq b b') (bif' (Nat.beq c c') (Nat.beq d d') false) false) h
      obtain ⟨h3, h4⟩ := bif'_true_of h2
      obtain ⟨h5, h6⟩ := bif'_true_of h4
      rw [beqT h1, beqT h3, beqT h5, beqT h6]
    case sliceu.sliceu a b c d a' b' c' d' =>
      obtain ⟨h1, h2⟩ := bif'_true_of (b := Nat.beq a a') (x := bif' (Nat.beq b b') (bif' (Nat.beq c c') (Nat.beq d d') false) false) h
      obtain ⟨h3, h4⟩ := bif'_true_of h2
      obtain ⟨h5, h6⟩ := bif'_true_of h4
      rw [beqT h1, beqT h3, beqT h5, beqT h6]
    case map.map a b => rw [beqT h]
    case iface.iface t v t' u =>
      obtain ⟨h1, h2⟩ := bif'_true_of (b := Nat.beq t t') (x := sameV n v u) h
      rw [beqT h1, ih v u h2]
    case agg.agg r q => rw [sameRow_eq ih r q h]

/-! what an operation looks at -/

theorem tmpMask_spec {t : Nat} : ∀ {xs : List Operand}, Operand.tmp t ∈ xs → has (tmpMask xs) t = true
  | [], h => by simp at h
  | x :: xs, h => by
    rcases List.mem_cons.1 h with rfl | h
    · exact (has_withBit _ _ _).2 (.inr rfl)
    · have ih := tmpMask_spec h
      cases x <;> first | exact ih | exact (has_withBit _ _ _).2 (.inl ih)

theorem guardMask_sub {m t : Nat} {g : Option (Nat × Bool)} (h : has m t = true) : has (guardMask ops g m) t = true := by
  unfold guardMask
  split
  · exact h
  · split
    · exact h
    · split
      · exact h
      · exact (has_withBit _ _ _).2 (.inl h)

theorem look_op {o : Oper} {t : Nat} (h : Operand.tmp t ∈ o.op.operands) : has (lookOf ops o) t = true := guardMask_sub (tmpMask_spec (Array.mem_toList_iff.2 h))

theorem look_guard {o : Oper} {g : Nat × Bool} {d : Nat} (hg : o.guard = some g) (hd : (ops[g.1]?).bind (·.dst) = some d) : has (lookOf ops o) d = true := by
  unfold lookOf guardMask
  rw [hg]
  cases ho : ops[g.1]? with
  | none => rw [ho] at hd; cases hd
  | some q =>
    rw [ho] at hd
    have hd' : q.dst = some d := hd
    simp only [ho, hd']
    exact (has_withBit _ _ _).2 (.inr rfl)

theorem wantA_congr {s s' : ASt} {j : Nat} {b : Bool} (hs : ∀ d, (ops[j]?).bind (·.dst) = some d → s'.t.at d = s.t.at d) : wantA s' ops j b = wantA s ops j b := by
  unfold wantA
  cases ho : ops[j]? with
  | none => rfl
  | some q =>
    cases hd : q.dst with
    | none => simp only [obind, hd]
    | some d =>
      have := hs d (by rw [ho]; exact hd)
      simp only [obind, hd, tmpsOf_eq, this]

theorem evalQ_congr {o : Oper} {s s' : ASt} (hrd : s'.round = s.round) (hs : ∀ t, has (lookOf ops o) t = true → s'.t.at t = s.t.at t) : evalQ P ops o s' h = evalQ P ops o s h := by
  have h1 : execT P o.op s' h = execT P o.op s h := execT_congr hrd fun i hi => hs i (look_op hi)
  unfold evalQ
  cases hg : o.guard with
  | none => simp only [h1]
  | some g =>
    have h2 : wantA s' ops g.1 g.2 = wantA s ops g.1 g.2 := wantA_congr fun d hd => hs d (look_guard hg hd)
    simp only [h1, h2]

theorem quietV_some {x : Option (AN × AHeap)} {v : Option AV} (hq : quietV x = some v) : ∃ h', x = some (.val v, h') := by
  obtain ⟨p, hp, h1⟩ := obind_eq hq
  obtain ⟨n, h'⟩ := p
  cases n <;> first | (cases h1; done) | skip
  cases h1; exact ⟨h', hp⟩

theorem evalQ_pure {o : Oper} {s : ASt} {v : Option AV} (hk : kindOp P o.op = 0) (he : evalQ P ops o s h = some v) (h2 : AHeap) : evalQ P ops o s h2 = some v := by
  have key : ∀ {v}, quietV (execT P o.op s h) = some v → quietV (execT P o.op s h2) = some v := by
    intro v hq
    obtain ⟨h', hx⟩ := quietV_some hq
    obtain ⟨_, _, hh⟩ := quiet_any (by rw [hk]; rfl) hx
    rw [hh hk h2]; rfl
  unfold evalQ at he ⊢
  split at he
  · exact key he
  · obtain ⟨b, hb, h1⟩ := obind_eq he
    simp only [hb, obind]
    rcases bif'_some h1 with ⟨rfl, h3⟩ | ⟨rfl, h3⟩
    · exact key h3
    · exact h3

/-- a quiet operation, whenever it comes -/
theorem evalQ_wp (hF : Wd F) (hr : HR env W ι h w) {i : Nat} {o : Oper} {s : ASt} {a : Act} {v : Option AV} (ho : ops[i]? = some o) (hk : Nat.ble (kindOp P o.op) 1 = true) (hro : s.round = none → F.round = none)
    (hl : ∀ t, has (lookOf ops o) t = true → ∀ v, s.t.at t = some v → ∃ x, a.tmps[t]? = some x ∧ VR env ι v x)
    (he : evalQ P ops o s h = some v) {n : Nat} {Q : Exit → Act → World → Prop} {K : Act → World → Prop}
    (hK : ∀ ι' w' y, Ext ι ι' → HR env W ι' h w' → (∀ u, v = some u → VR env ι' u y) → K (a.put o.dst y) w') : wpOpIn F n P ops.toArray Q i K a w := by
  have hkn : ∀ x ∈ o.op.operands, Knows env ι s.t a.eval x := by
    intro x hx u hu
    cases x with
    | tmp t =>
      obtain ⟨y, hy, hvy⟩ := hl t (look_op hx) u hu
      rw [eval_tmp, hy]; exact hvy
    | const c => exact ofV_ok hu
    | func f => cases hu; exact .fn f [] [] [] [] .nil .nil
    | global g => cases hu
  have go : quietV (execT P o.op s h) = some v → o.wpIn F n P a w K Q := by
    intro hq
    obtain ⟨h', hx⟩ := quietV_some hq
    obtain ⟨rfl, _⟩ := quiet_any hk hx
    obtain ⟨ι', w', y, hs, e, hv, hr'⟩ := execT_ok hr hro hkn hx
    refine ⟨fun f _ => hF.fn f, ?_⟩
    rw [hs]
    exact hK ι' w' y e hr' hv
  unfold wpOpIn
  simp only [List.getElem?_toArray, ho]
  unfold evalQ at he
  split at he
  · rename_i hg
    rw [if_pos (by simp [Region.wanted, hg])]
    exact go he
  · rename_i g hg
    obtain ⟨b, hb, h1⟩ := obind_eq he
    have hw := wantA_ok (env := env) (ι := ι) (a := a) (fun d hd v hv => hl d (look_guard hg hd) v hv) hb o hg
    rcases bif'_some h1 with ⟨rfl, h3⟩ | ⟨rfl, h3⟩
    · rw [if_pos hw]; exact go h3
    · rw [if_neg (by rw [hw]; simp)]
      cases h3
      exact ⟨fun f _ => hF.fn f, hK ι w undef (.refl ι) hr fun u hu => by cases hu; exact .tup [] [] .nil⟩

/-! blocks that are laid out ahead of their time -/

def addPh (W : Base) (b : Nat) (o : Option AObj) : Base := ⟨W.world, fun c => if c = b then o else W.ph c⟩

theorem HR.phantom (hr : HR env W ι h w) (o : AObj) : HR env (addPh W h.next (some o)) ι (h.new o) w := by
  have hn := hr.fresh h.next (Nat.le_refl _)
  refine ⟨hr.old, fun b hb => hr.fresh b (by have hb' : h.next + 1 ≤ b := hb; omega), hr.rng, ?_, ?_, ?_⟩
  · intro b b' o1 o2 c s s' h1 h2 e1 e2
    rw [AHeap.at_new] at h1 h2
    rw [if_neg (fun e => by subst e; rw [hn] at e1; cases e1)] at h1
    rw [if_neg (fun e => by subst e; rw [hn] at e2; cases e2)] at h2
    exact hr.inj b b' o1 o2 c s s' h1 h2 e1 e2
  · intro b o1 c s h1 e1
    rw [AHeap.at_new, if_neg (fun e => by subst e; rw [hn] at e1; cases e1)] at h1
    exact hr.obj b o1 c s h1 e1
  · intro b o1 hb
    simp only [addPh] at hb
    by_cases e : b = h.next
    · rw [if_pos e] at hb; cases hb
      exact ⟨by rw [e]; exact Nat.lt_succ_self _, by rw [e]; exact hn, by rw [AHeap.at_new, if_pos e]⟩
    · rw [if_neg e] at hb
      obtain ⟨q1, q2, q3⟩ := hr.ph b o1 hb
      exact ⟨Nat.lt_succ_of_lt q1, q2, by rw [AHeap.at_new, if_neg e]; exact q3⟩

theorem HR.late (hr : HR env W ι h w) {b sz k : Nat} {o : AObj} {x : Obj} (hb : W.ph b = some o) (ho : OR env (ι.add b (w.heap.size, sz)) o sz x) :
    HR env (addPh W b none) (ι.add b (w.heap.size, sz)) h { w with heap := w.heap.push x, drawn := k } := by
  obtain ⟨q1, q2, q3⟩ := hr.ph b o hb
  have hx : Ext ι (ι.add b (w.heap.size, sz)) := Ext.add q2
  refine ⟨?_, ?_, ?_, ?_, ?_, ?_⟩
  · refine ⟨hr.old.os, hr.old.tape, hr.old.output, Nat.le_trans hr.old.size (by simp), fun j hj => ?_⟩
    have hj' : j < W.world.heap.size := hj
    have : j < w.heap.size := Nat.lt_of_lt_of_le hj' hr.old.size
    show (w.heap.push x)[j]? = _
    rw [Array.getElem?_push, if_neg (by omega)]; exact hr.old.block j hj'
  · intro c hc
    simp only [Inj.add]; rw [if_neg (by omega)]; exact hr.fresh c hc
  · intro c c' s' e
    simp only [Inj.add] at e
    show _ ∧ c' < (w.heap.push x).size
    rw [Array.size_push]
    by_cases hc : c = b
    · rw [if_pos hc] at e; cases e; exact ⟨hr.old.size, by omega⟩
    · rw [if_neg hc] at e; have := hr.rng c c' s' e; exact ⟨this.1, by omega⟩
  · intro b1 b2 o1 o2 c' s1 s2 h1 h2 e1 e2
    simp only [Inj.add] at e1 e2
    by_cases hb1 : b1 = b
    · by_cases hb2 : b2 = b
      · rw [hb1, hb2]
      · rw [if_pos hb1] at e1; rw [if_neg hb2] at e2; cases e1
        have := hr.rng b2 _ _ e2; omega
    · by_cases hb2 : b2 = b
      · rw [if_neg hb1] at e1; rw [if_pos hb2] at e2; cases e2
        have := hr.rng b1 _ _ e1; omega
      · rw [if_neg hb1] at e1; rw [if_neg hb2] at e2
        exact hr.inj b1 b2 o1 o2 c' s1 s2 h1 h2 e1 e2
  · intro b1 o1 c1 s1 h1 a1
    simp only [Inj.add] at a1
    by_cases hb1 : b1 = b
    · rw [if_pos hb1] at a1; cases a1
      rw [hb1, q3] at h1; cases h1
      refine ⟨x, ?_, ho⟩
      show (w.heap.push x)[w.heap.size]? = _
      simp
    · rw [if_neg hb1] at a1
      obtain ⟨x1, a2, a3⟩ := hr.obj b1 o1 c1 s1 h1 a1
      refine ⟨x1, ?_, a3.mono hx⟩
      show (w.heap.push x)[c1]? = _
      have := hr.rng b1 _ _ a1
      rw [Array.getElem?_push, if_neg (by omega)]; exact a2
  · intro b1 o1 h1
    simp only [addPh] at h1
    by_cases e : b1 = b
    · rw [if_pos e] at h1; cases h1
    · rw [if_neg e] at h1
      obtain ⟨p1, p2, p3⟩ := hr.ph b1 o1 h1
      exact ⟨p1, by simp only [Inj.add]; rw [if_neg e]; exact p2, p3⟩

theorem HR.lessPh (hr : HR env W' ι h w) (hw : W'.world = W.world) (hp : ∀ b o, W.ph b = some o → W'.ph b = some o) : HR env W ι h w :=
  ⟨by rw [← hw]; exact hr.old, hr.fresh, by rw [← hw]; exact hr.rng, hr.inj, hr.obj, fun b o hb => hr.ph b o (hp b o hb)⟩

end
end Go.Ab
