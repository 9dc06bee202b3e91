/- The plan of a region that draws its order: what it says. -/
import Derived.Test.YtdakmcoggmlglaaGreatAbDraw1
set_option linter.all false
namespace Go.Ab
open Go.RowKit
noncomputable section

variable {P : Program}

theorem has_eq (m i : Nat) : has m i = m.testBit i := by
  rw [Nat.testBit_eq_decide_div_mod_eq]
  unfold has
  show Nat.beq (m / 2 ^ i % 2) 1 = _
  cases hb : Nat.beq (m / 2 ^ i % 2) 1 with
  | true => simp [beqT hb]
  | false => simp [beqF hb]

theorem has_zero (i : Nat) : has 0 i = false := by rw [has_eq]; simp

theorem has_lor (a b i : Nat) : has (Nat.lor a b) i = (has a i || has b i) := by
  rw [has_eq, has_eq, has_eq]; exact Nat.testBit_or a b i

theorem has_withBit (m i j : Nat) : has (withBit m i) j = true ↔ has m j = true ∨ i = j := by
  unfold withBit
  rw [has_lor]
  have : has (Nat.pow 2 i) j = decide (i = j) := by rw [has_eq]; exact Nat.testBit_two_pow
  rw [this]; simp

theorem within_spec {a b i : Nat} (h : within a b = true) (ha : has a i = true) : has b i = true := by
  have h1 : Nat.land a b = a := beqT h
  rw [has_eq] at ha ⊢
  have h2 : (a &&& b).testBit i = true := by
    show (Nat.land a b).testBit i = true
    rw [h1]; exact ha
  rw [Nat.testBit_and] at h2
  simp at h2; exact h2.2

theorem within_of {a b : Nat} (h : ∀ i, has a i = true → has b i = true) : within a b = true := by
  have : Nat.land a b = a := by
    apply Nat.eq_of_testBit_eq
    intro i
    show (a &&& b).testBit i = a.testBit i
    rw [Nat.testBit_and]
    have := h i
    rw [has_eq, has_eq] at this
    cases ha : a.testBit i with
    | false => rfl
    | true => simp [this ha]
  unfold within
  rw [this]; exact Nat.beq_refl a

theorem edgeMask_spec {p : Edge → Bool} {j : Nat} : ∀ {es : List Edge}, has (edgeMask p es) j = true ↔ ∃ e ∈ es, p e = true ∧ e.on = j
  | [] => by
    show has 0 j = true ↔ _
    simp [has_zero]
  | e :: es => by
    show has (bif' (p e) (withBit (edgeMask p es) e.on) (edgeMask p es)) j = true ↔ _
    cases hp : p e with
    | true =>
      show has (withBit (edgeMask p es) e.on) j = true ↔ _
      rw [has_withBit, edgeMask_spec (es := es)]
      simp only [List.mem_cons]
      constructor
      · rintro (⟨e', h1, h2⟩ | h)
        · exact ⟨e', .inr h1, h2⟩
        · exact ⟨e, .inl rfl, hp, h⟩
      · rintro ⟨e', h1 | h1, h2, h3⟩
        · subst h1; exact .inr h3
        · exact .inl ⟨e', h1, h2, h3⟩
    | false =>
      show has (edgeMask p es) j = true ↔ _
      rw [edgeMask_spec (es := es)]
      simp only [List.mem_cons]
      constructor
      · rintro ⟨e', h1, h2⟩; exact ⟨e', .inr h1, h2⟩
      · rintro ⟨e', h1 | h1, h2, h3⟩
        · subst h1; rw [hp] at h2; cases h2
        · exact ⟨e', h1, h2, h3⟩

theorem befOf_spec {dep j : Nat} : ∀ {rows : List PRow}, has (befOf rows dep) j = true → ∃ r ∈ rows, has dep r.ix = true ∧ has r.bef j = true
  | [], h => by
    have h' : has 0 j = true := h
    rw [has_zero] at h'; cases h'
  | r :: rows, h => by
    have h' : has (bif' (has dep r.ix) (Nat.lor (befOf rows dep) r.bef) (befOf rows dep)) j = true := h
    cases hd : has dep r.ix with
    | true =>
      rw [hd] at h'
      have h2 : has (Nat.lor (befOf rows dep) r.bef) j = true := h'
      rw [has_lor] at h2
      simp only [Bool.or_eq_true] at h2
      rcases h2 with h3 | h3
      · obtain ⟨r', h4, h5⟩ := befOf_spec h3; exact ⟨r', by simp [h4], h5⟩
      · exact ⟨r, by simp, hd, h3⟩
    | false =>
      rw [hd] at h'
      obtain ⟨r', h4, h5⟩ := befOf_spec (rows := rows) h'; exact ⟨r', by simp [h4], h5⟩

/-- the rows of a region's operations -/
structure RowsOk (P : Program) (ops : List Oper) (k : Nat) (rows : List PRow) : Prop where
  row : ∀ r ∈ rows, r.ix < k ∧ ops[r.ix]? = some r.op ∧ r.kind = kindOf P r.op ∧ r.dep = edgeMask bindsAny r.op.after.toList ∧ r.look = lookOf ops r.op
  bef : ∀ r ∈ rows, ∀ j, has r.bef j = true → has r.dep j = true ∨ ∃ r' ∈ rows, has r.dep r'.ix = true ∧ has r'.bef j = true
  all : ∀ i, i < k → ∃ r ∈ rows, r.ix = i
  one : ∀ r ∈ rows, ∀ r' ∈ rows, r.ix = r'.ix → r = r'

theorem mkRows_ok {ops : List Oper} : ∀ (todo : List Oper) (k : Nat) (acc : List PRow), (∀ i, todo[i]? = ops[k + i]?) → RowsOk P ops k acc →
    RowsOk P ops (k + todo.length) (mkRows P ops todo k acc) := by
  intro todo
  induction todo with
  | nil => intro k acc _ h; exact h
  | cons o todo ih =>
    intro k acc hix hok
    have ho : ops[k]? = some o := by have := hix 0; simp at this; exact this.symm
    have hrow : RowsOk P ops (k + 1) (mkRow P ops k o acc (edgeMask bindsAny o.after.toList) :: acc) := by
      refine ⟨?_, ?_, ?_, ?_⟩
      · intro r hr
        rcases List.mem_cons.1 hr with rfl | hr
        · exact ⟨Nat.lt_succ_self k, ho, rfl, rfl, rfl⟩
        · obtain ⟨h1, h2⟩ := hok.row r hr; exact ⟨Nat.lt_succ_of_lt h1, h2⟩
      · intro r hr j hj
        rcases List.mem_cons.1 hr with rfl | hr
        · have hj' : has (Nat.lor (edgeMask bindsAny o.after.toList) (befOf acc (edgeMask bindsAny o.after.toList))) j = true := hj
          rw [has_lor] at hj'
          simp only [Bool.or_eq_true] at hj'
          rcases hj' with h | h
          · exact .inl h
          · obtain ⟨r', h1, h2, h3⟩ := befOf_spec h
            exact .inr ⟨r', List.mem_cons_of_mem _ h1, h2, h3⟩
        · rcases hok.bef r hr j hj with h | ⟨r', h1, h2⟩
          · exact .inl h
          · exact .inr ⟨r', List.mem_cons_of_mem _ h1, h2⟩
      · intro i hi
        by_cases e : i = k
        · exact ⟨_, List.mem_cons_self, e.symm⟩
        · obtain ⟨r, h1, h2⟩ := hok.all i (by omega); exact ⟨r, List.mem_cons_of_mem _ h1, h2⟩
      · intro r hr r' hr' e
        rcases List.mem_cons.1 hr with rfl | hr
        · rcases List.mem_cons.1 hr' with rfl | hr'
          · rfl
          · have := (hok.row r' hr').1
            have e' : k = r'.ix := e
            omega
        · rcases List.mem_cons.1 hr' with rfl | hr'
          · have := (hok.row r hr).1
            have e' : r.ix = k := e
            omega
          · exact hok.one r hr r' hr' e
    have := ih (k + 1) _ (fun i => by
      have := hix (i + 1)
      simp at this
      rw [this]; congr 1; omega) hrow
    have e : k + (o :: todo).length = (k + 1) + todo.length := by simp; omega
    rw [e]; exact this

theorem rowsOf_ok (P : Program) (ops : List Oper) : RowsOk P ops ops.length (rowsOf P ops) := by
  have h0 : RowsOk P ops 0 [] := ⟨fun r h => by simp at h, fun r h => by simp at h, fun i h => by omega, fun r h => by simp at h⟩
  have := mkRows_ok (P := P) ops 0 [] (fun i => by simp) h0
  rw [Nat.zero_add] at this
  unfold rowsOf
  refine ⟨fun r hr => this.row r (List.mem_reverse.1 hr), fun r hr j hj => ?_, fun i hi => ?_, fun r hr r' hr' => this.one r (List.mem_reverse.1 hr) r' (List.mem_reverse.1 hr')⟩
  · rcases this.bef r (List.mem_reverse.1 hr) j hj with h | ⟨r', h1, h2⟩
    · exact .inl h
    · exact .inr ⟨r', List.mem_reverse.2 h1, h2⟩
  · obtain ⟨r, h1, h2⟩ := this.all i hi
    exact ⟨r, List.mem_reverse.2 h1, h2⟩

theorem pickR_some {p : PRow → Bool} {r : PRow} : ∀ {rows : List PRow}, pickR p rows = some r → r ∈ rows ∧ p r = true
  | [], h => by cases h
  | q :: rows, h => by
    have h' : bif' (p q) (some q) (pickR p rows) = some r := h
    rcases bif'_some h' with ⟨hp, h2⟩ | ⟨_, h2⟩
    · cases h2; exact ⟨by simp, hp⟩
    · obtain ⟨h3, h4⟩ := pickR_some h2; exact ⟨by simp [h3], h4⟩

theorem pickR_none {p : PRow → Bool} : ∀ {rows : List PRow}, pickR p rows = none → ∀ r ∈ rows, p r = false
  | [], _ => by simp
  | q :: rows, h => by
    have h' : bif' (p q) (some q) (pickR p rows) = none := h
    cases hp : p q with
    | true => rw [hp] at h'; cases h'
    | false =>
      rw [hp] at h'
      intro r hr
      rcases List.mem_cons.1 hr with rfl | hr
      · exact hp
      · exact pickR_none h' r hr

theorem keepR_mem {p : PRow → Bool} {r : PRow} : ∀ {rows : List PRow}, r ∈ keepR p rows ↔ r ∈ rows ∧ p r = true
  | [] => by simp [keepR]
  | q :: rows => by
    show r ∈ bif' (p q) (q :: keepR p rows) (keepR p rows) ↔ _
    cases hp : p q with
    | true =>
      show r ∈ q :: keepR p rows ↔ _
      rw [List.mem_cons, keepR_mem (rows := rows), List.mem_cons]
      constructor
      · rintro (rfl | ⟨h1, h2⟩)
        · exact ⟨.inl rfl, hp⟩
        · exact ⟨.inr h1, h2⟩
      · rintro ⟨rfl | h1, h2⟩
        · exact .inl rfl
        · exact .inr ⟨h1, h2⟩
    | false =>
      show r ∈ keepR p rows ↔ _
      rw [keepR_mem (rows := rows), List.mem_cons]
      constructor
      · rintro ⟨h1, h2⟩; exact ⟨.inr h1, h2⟩
      · rintro ⟨rfl | h1, h2⟩
        · rw [hp] at h2; cases h2
        · exact ⟨h1, h2⟩

theorem rereads_spec {D but : Nat} {r : PRow} : ∀ {rows : List PRow}, r ∈ rows → r.kind = 1 → has D r.ix = true → has but r.ix = false → r.op ∈ rereads rows D but
  | [], h, _, _, _ => by simp at h
  | q :: rows, h, hk, hd, hb => by
    show r.op ∈ bif' (Nat.beq q.kind 1) (bif' (has D q.ix) (bif' (has but q.ix) (rereads rows D but) (q.op :: rereads rows D but)) (rereads rows D but)) (rereads rows D but)
    rcases List.mem_cons.1 h with rfl | h
    · rw [hk, hd, hb]; exact List.mem_cons_self
    · have ih := rereads_spec h hk hd hb
      cases Nat.beq q.kind 1 <;> cases has D q.ix <;> cases has but q.ix <;> first | exact ih | exact List.mem_cons_of_mem _ ih

/-- what a step of the plan is -/
structure ItemOk (rows : List PRow) (D : Nat) (it : PItem) : Prop where
  mem : it.row ∈ rows
  ready : readyR D it.row = true
  way : (it.way = 0 ∧ it.row.kind ≤ 1) ∨ (it.way = 1 ∧ it.row.kind = 2 ∧ it.re = rereads rows D 0) ∨
    (it.way = 2 ∧ it.re = rereads rows D it.row.bef ∧ ∀ r ∈ rows, readyR D r = true → r = it.row)

theorem nextItem_ok {rows : List PRow} {D : Nat} {it : PItem} (h : nextItem rows D = some it) : ItemOk rows D it := by
  unfold nextItem at h
  split at h
  · rename_i r hp
    cases h
    obtain ⟨h1, h2⟩ := pickR_some hp
    have h2' : bif' (readyR D r) (Nat.ble r.kind 1) false = true := h2
    cases hr : readyR D r with
    | false => rw [hr] at h2'; cases h2'
    | true =>
      rw [hr] at h2'
      exact ⟨h1, hr, .inl ⟨rfl, bleT h2'⟩⟩
  · split at h
    · cases h
    · rename_i r hk
      cases h
      have hm : r ∈ keepR (readyR D) rows := by rw [hk]; simp
      obtain ⟨h1, h2⟩ := keepR_mem.1 hm
      refine ⟨h1, h2, .inr (.inr ⟨rfl, rfl, fun r' hr' hd => ?_⟩)⟩
      have : r' ∈ keepR (readyR D) rows := keepR_mem.2 ⟨hr', hd⟩
      rw [hk] at this
      simpa using this
    · split at h
      · rename_i r hp
        cases h
        obtain ⟨h1, h2⟩ := pickR_some hp
        obtain ⟨h3, h4⟩ := keepR_mem.1 h1
        exact ⟨h3, h4, .inr (.inl ⟨rfl, beqT h2, rfl⟩)⟩
      · cases h

inductive PlanS (rows : List PRow) : Nat → List PItem → Prop where
  | nil (D : Nat) : (∀ r ∈ rows, has D r.ix = true) → PlanS rows D []
  | cons (D : Nat) (it : PItem) (l : List PItem) : ItemOk rows D it → PlanS rows (withBit D it.row.ix) l → PlanS rows D (it :: l)

theorem allIn_spec {D : Nat} : ∀ {rows : List PRow}, allIn rows D = true → ∀ r ∈ rows, has D r.ix = true
  | [], _ => by simp
  | q :: rows, h => by
    have h' : bif' (has D q.ix) (allIn rows D) false = true := h
    obtain ⟨h1, h2⟩ := bif'_true_of h'
    intro r hr
    rcases List.mem_cons.1 hr with rfl | hr
    · exact h1
    · exact allIn_spec h2 r hr

theorem planGo_ok {rows : List PRow} : ∀ (n D : Nat) (pl : List PItem), planGo rows n D = some pl → PlanS rows D pl
  | 0, D, pl, h => by
    have h' : bif' (allIn rows D) (some []) none = some pl := h
    rcases bif'_some h' with ⟨h1, h2⟩ | ⟨_, h2⟩
    · cases h2; exact .nil D (allIn_spec h1)
    · cases h2
  | n + 1, D, pl, h => by
    obtain ⟨it, hi, h1⟩ := obind_eq (x := nextItem rows D) (f := fun (it : PItem) => obind (planGo rows n (withBit D it.row.ix)) fun l => some (it :: l)) h
    obtain ⟨l, hl, h2⟩ := obind_eq h1
    cases h2
    exact .cons D it l (nextItem_ok hi) (planGo_ok n _ l hl)

theorem reachOnce_sub {p : Edge → Bool} {L : Nat → Prop} : ∀ {rows : List PRow} {D : Nat}, (∀ r ∈ rows, (∀ e ∈ r.op.after.toList, p e = true → L e.on) → L r.ix) → (∀ i, has D i = true → L i) →
    ∀ i, has (reachOnce p rows D) i = true → L i
  | [], D, _, hD => hD
  | r :: rows, D, hr, hD => by
    show ∀ i, has (reachOnce p rows (bif' (within (edgeMask p r.op.after.toList) D) (withBit D r.ix) D)) i = true → L i
    refine reachOnce_sub (rows := rows) (fun q hq => hr q (by simp [hq])) ?_
    intro i hi
    cases hw : within (edgeMask p r.op.after.toList) D with
    | false => rw [hw] at hi; exact hD i hi
    | true =>
      rw [hw] at hi
      rcases (has_withBit D r.ix i).1 hi with h | rfl
      · exact hD i h
      · exact hr r (by simp) fun e he hp => hD _ (within_spec hw (edgeMask_spec.2 ⟨e, he, hp, rfl⟩))

theorem reachN_sub {p : Edge → Bool} {L : Nat → Prop} {rows : List PRow} (hr : ∀ r ∈ rows, (∀ e ∈ r.op.after.toList, p e = true → L e.on) → L r.ix) : ∀ n i, has (reachN p rows n) i = true → L i
  | 0, i, h => by
    have h' : has 0 i = true := h
    rw [has_zero] at h'; cases h'
  | n + 1, i, h => reachOnce_sub hr (reachN_sub hr n) i h

end
end Go.Ab
