/- The abstract heap, and how it stands for memory; loading, storing, making blocks. -/
import Derived.Test.YtdakmcoggmlglaaGreatAbRow
import Derived.Below
set_option linter.all false
namespace Go.Ab
open Go.RowKit
noncomputable section

variable {env : Nat → Value} {ι ι' : Inj}

structure AEnt where
  key : AV
  val : AV
  born : Nat

inductive AObj where
  | cells (r : Row) (opn plain : Bool)
  | map (es : List AEnt) (clock : Nat)
  | loop (state : LoopState) (pending : Option Code) (size : Nat) (tmps : TT AV) (params : List Tmp) (assign body : Code) (defers : Nat)
  | dfr (taken : Bool)

structure AHeap where
  next : Nat
  t : HH AObj

def AHeap.at (h : AHeap) (b : Nat) : Option AObj := h.t.at b
def AHeap.put (h : AHeap) (b : Nat) (o : Option AObj) : AHeap := { next := h.next, t := h.t.put b o }
/-- a new block, of the number h.next -/
def AHeap.new (h : AHeap) (o : AObj) : AHeap := { next := Nat.succ h.next, t := h.t.put h.next (some o) }

theorem AHeap.at_put (h : AHeap) (b c : Nat) (o : Option AObj) : (h.put b o).at c = if c = b then o else h.at c := HH.at_put_eq _ _ _ _
theorem AHeap.at_new (h : AHeap) (c : Nat) (o : AObj) : (h.new o).at c = if c = h.next then some o else h.at c := HH.at_put_eq _ _ _ _

/-- temporaries -/
structure TR (env : Nat → Value) (ι : Inj) (size : Nat) (t : TT AV) (a : Array Value) : Prop where
  size : a.size = size
  at_ : ∀ i v, t.at i = some v → ∃ x, a[i]? = some x ∧ VR env ι v x

theorem TR.mono {size : Nat} {t : TT AV} {a : Array Value} (h : TR env ι size t a) (e : Ext ι ι') : TR env ι' size t a :=
  ⟨h.size, fun i v hv => let ⟨x, hx, hr⟩ := h.at_ i v hv; ⟨x, hx, hr.mono e⟩⟩

structure EntR (env : Nat → Value) (ι : Inj) (a : AEnt) (e : MapEntry) : Prop where
  key : VR env ι a.key e.key
  val : VR env ι a.val e.val
  born : e.born = a.born

inductive EsR (env : Nat → Value) (ι : Inj) : List AEnt → List MapEntry → Prop where
  | nil : EsR env ι [] []
  | cons (a : AEnt) (e : MapEntry) (as : List AEnt) (es : List MapEntry) : EntR env ι a e → EsR env ι as es → EsR env ι (a :: as) (e :: es)

theorem EsR.mono (h : Ext ι ι') : ∀ {as : List AEnt} {es : List MapEntry}, EsR env ι as es → EsR env ι' as es
  | _, _, .nil => .nil
  | _, _, .cons a e as es x y => .cons a e as es ⟨x.key.mono h, x.val.mono h, x.born⟩ (EsR.mono h y)

/-- an abstract block stands for a block of s cells -/
inductive OR (env : Nat → Value) (ι : Inj) : AObj → Nat → Obj → Prop where
  | cells (r : Row) (opn plain : Bool) (cs : Array Value) (e : TypeId) (fz : Nat × Nat) (xs tail : List Value) :
      cs.toList = xs ++ tail → RR env ι r xs → (opn = false → tail = []) → (fz = (0, 0) ∨ plain = false ∧ cs.size ≤ fz.1) →
      OR env ι (.cells r opn plain) cs.size (.cells cs e fz)
  | map (as : List AEnt) (clock : Nat) (es : List MapEntry) (s : Nat) : EsR env ι as es → OR env ι (.map as clock) s (.map es.toArray clock)
  | loop (state : LoopState) (pending : Option Code) (fn : FuncId) (size : Nat) (t : TT AV) (tmps : Array Value) (params : List Tmp) (assign body : Code) (d c s s' : Nat) :
      TR env ι size t tmps → ι d = some (c, s') → OR env ι (.loop state pending size t params assign body d) s (.loop { state, pending, fn, tmps, params := params.toArray, assign, body, defers := c })
  | dfr (taken : Bool) (s : Nat) : OR env ι (.dfr taken) s (.deferred (if taken then none else some []))

theorem OR.mono (h : Ext ι ι') {o : AObj} {s : Nat} {x : Obj} (r : OR env ι o s x) : OR env ι' o s x := by
  cases r with
  | cells r opn plain cs e fz xs tail a b c d => exact .cells r opn plain cs e fz xs tail a (b.mono h) c d
  | map as clock es s a => exact .map as clock es s (a.mono h)
  | loop state pending fn size t tmps params assign body d c s s' a b => exact .loop state pending fn size t tmps params assign body d c s s' (a.mono h) (h _ _ b)
  | dfr taken s => exact .dfr taken s

/-- what a run starts from: memory of before; blocks that are laid out already and not made yet -/
structure Base where
  world : World
  ph : Nat → Option AObj

structure HR (env : Nat → Value) (W : Base) (ι : Inj) (h : AHeap) (w : World) : Prop where
  old : Below W.world.heap.size W.world w
  fresh : ∀ b, h.next ≤ b → ι b = none
  rng : ∀ b c s, ι b = some (c, s) → W.world.heap.size ≤ c ∧ c < w.heap.size
  inj : ∀ b b' o o' c s s', h.at b = some o → h.at b' = some o' → ι b = some (c, s) → ι b' = some (c, s') → b = b'
  obj : ∀ b o c s, h.at b = some o → ι b = some (c, s) → ∃ x, w.heap[c]? = some x ∧ OR env ι o s x
  ph : ∀ b o, W.ph b = some o → b < h.next ∧ ι b = none ∧ h.at b = some o

variable {W : Base} {w : World} {h : AHeap}

theorem HR.drew (hr : HR env W ι h w) (n : Nat) : HR env W ι h { w with drawn := n } :=
  ⟨⟨hr.old.os, hr.old.tape, hr.old.output, hr.old.size, hr.old.block⟩, hr.fresh, hr.rng, hr.inj, hr.obj, hr.ph⟩

/-- a block of memory is another one -/
def putObj (w : World) (c : Nat) (o : Obj) : World := { w with heap := w.heap.setIfInBounds c o }

theorem putObj_at (w : World) (c d : Nat) (o : Obj) (hc : c < w.heap.size) : (putObj w c o).heap[d]? = if d = c then some o else w.heap[d]? := by
  simp only [putObj, Array.getElem?_setIfInBounds]
  by_cases e : d = c
  · subst e; simp [hc]
  · rw [if_neg e, if_neg (fun h => e h.symm)]

theorem putObj_size (w : World) (c : Nat) (o : Obj) : (putObj w c o).heap.size = w.heap.size := by simp [putObj]

theorem putObj_self (w : World) (c : Nat) (o : Obj) (h : w.heap[c]? = some o) : putObj w c o = w := by
  have : w.heap.setIfInBounds c o = w.heap := by
    apply Array.ext_getElem?
    intro i
    simp only [Array.getElem?_setIfInBounds]
    split
    · rename_i e; subst e; rw [h]; split
      · rfl
      · rename_i hn; rw [Array.getElem?_eq_none (by omega)] at h; cases h
    · rfl
  simp [putObj, this]

theorem putObj_putObj (w : World) (c : Nat) (o o' : Obj) : putObj (putObj w c o) c o' = putObj w c o' := by
  have : (w.heap.setIfInBounds c o).setIfInBounds c o' = w.heap.setIfInBounds c o' := by
    apply Array.ext_getElem?
    intro i
    simp only [Array.getElem?_setIfInBounds, Array.size_setIfInBounds]
    split
    · rfl
    · rfl
  simp [putObj, this]

/-- a live block is changed -/
theorem HR.set (hr : HR env W ι h w) {b c s : Nat} {o o' : AObj} {x' : Obj} (hb : h.at b = some o) (hc : ι b = some (c, s)) (ho : OR env ι o' s x') :
    HR env W ι (h.put b (some o')) (putObj w c x') := by
  obtain ⟨hlo, hhi⟩ := hr.rng b c s hc
  refine ⟨?_, ?_, ?_, ?_, ?_, ?_⟩
  · refine ⟨hr.old.os, hr.old.tape, hr.old.output, by rw [putObj_size]; exact hr.old.size, fun k hk => ?_⟩
    rw [putObj_at _ _ _ _ hhi, if_neg (by omega)]; exact hr.old.block k hk
  · exact hr.fresh
  · intro b' c' s' h'; rw [putObj_size]; exact hr.rng b' c' s' h'
  · intro b1 b2 o1 o2 c' s1 s2 h1 h2 e1 e2
    rw [AHeap.at_put] at h1 h2
    have l1 : ∃ o, h.at b1 = some o := by
      by_cases e : b1 = b
      · exact ⟨o, e ▸ hb⟩
      · rw [if_neg e] at h1; exact ⟨_, h1⟩
    have l2 : ∃ o, h.at b2 = some o := by
      by_cases e : b2 = b
      · exact ⟨o, e ▸ hb⟩
      · rw [if_neg e] at h2; exact ⟨_, h2⟩
    obtain ⟨p1, l1⟩ := l1
    obtain ⟨p2, l2⟩ := l2
    exact hr.inj b1 b2 p1 p2 c' s1 s2 l1 l2 e1 e2
  · intro b1 o1 c1 s1 h1 a1
    rw [AHeap.at_put] at h1
    by_cases e : b1 = b
    · subst e
      rw [if_pos rfl] at h1
      cases h1
      rw [hc] at a1; cases a1
      exact ⟨x', by rw [putObj_at _ _ _ _ hhi, if_pos rfl], ho⟩
    · rw [if_neg e] at h1
      obtain ⟨x1, a2, a3⟩ := hr.obj b1 o1 c1 s1 h1 a1
      refine ⟨x1, ?_, a3⟩
      rw [putObj_at _ _ _ _ hhi, if_neg ?_]
      · exact a2
      · intro ec; subst ec; exact e (hr.inj b1 b o1 o c1 s1 s h1 hb a1 hc)
  · intro b1 o1 h1
    obtain ⟨q1, q2, q3⟩ := hr.ph b1 o1 h1
    refine ⟨q1, q2, ?_⟩
    rw [AHeap.at_put, if_neg ?_]
    · exact q3
    · intro e; subst e; rw [q2] at hc; cases hc

/-- a block is forgotten -/
theorem HR.drop (hr : HR env W ι h w) (b : Nat) (hb : W.ph b = none) : HR env W ι (h.put b none) w := by
  refine ⟨hr.old, hr.fresh, hr.rng, ?_, ?_, ?_⟩
  · intro b1 b2 o1 o2 c' s1 s2 h1 h2 e1 e2
    rw [AHeap.at_put] at h1 h2
    split at h1
    · cases h1
    split at h2
    · cases h2
    exact hr.inj b1 b2 o1 o2 c' s1 s2 h1 h2 e1 e2
  · intro b1 o1 c1 s1 h1 a1
    rw [AHeap.at_put] at h1
    split at h1
    · cases h1
    exact hr.obj b1 o1 c1 s1 h1 a1
  · intro b1 o1 h1
    obtain ⟨q1, q2, q3⟩ := hr.ph b1 o1 h1
    refine ⟨q1, q2, ?_⟩
    rw [AHeap.at_put, if_neg ?_]
    · exact q3
    · intro e; subst e; rw [hb] at h1; cases h1

theorem HR.ph_none (hr : HR env W ι h w) {b : Nat} {p : Nat × Nat} (hb : ι b = some p) : W.ph b = none := by
  cases e : W.ph b with
  | none => rfl
  | some o => rw [(hr.ph b o e).2.1] at hb; cases hb

def Inj.add (ι : Inj) (b : Nat) (p : Nat × Nat) : Inj := fun x => if x = b then some p else ι x

theorem Ext.add {b : Nat} {p : Nat × Nat} (h : ι b = none) : Ext ι (ι.add b p) := by
  intro x q hx
  simp only [Inj.add]
  by_cases e : x = b
  · subst e; rw [h] at hx; cases hx
  · rw [if_neg e]; exact hx

theorem HR.ext_new (hr : HR env W ι h w) (p : Nat × Nat) : Ext ι (ι.add h.next p) := Ext.add (hr.fresh _ (Nat.le_refl _))

/-- a new block -/
theorem HR.new (hr : HR env W ι h w) {o : AObj} {x : Obj} {s : Nat} (ho : OR env (ι.add h.next (w.heap.size, s)) o s x) :
    HR env W (ι.add h.next (w.heap.size, s)) (h.new o) { w with heap := w.heap.push x } := by
  have hx := hr.ext_new (w.heap.size, s)
  refine ⟨?_, ?_, ?_, ?_, ?_, ?_⟩
  · refine ⟨hr.old.os, hr.old.tape, hr.old.output, Nat.le_trans hr.old.size (by simp), fun k hk => ?_⟩
    have : k < w.heap.size := Nat.lt_of_lt_of_le hk hr.old.size
    show (w.heap.push x)[k]? = _
    rw [Array.getElem?_push, if_neg (by omega)]; exact hr.old.block k hk
  · intro b hb
    have hb' : h.next + 1 ≤ b := hb
    simp only [Inj.add]; rw [if_neg (by omega)]; exact hr.fresh b (by omega)
  · intro b c' s' e
    simp only [Inj.add] at e
    show _ ∧ c' < (w.heap.push x).size
    rw [Array.size_push]
    by_cases hb : b = h.next
    · rw [if_pos hb] at e; cases e; exact ⟨hr.old.size, by omega⟩
    · rw [if_neg hb] at e; have := hr.rng b c' s' e; omega
  · intro b1 b2 o1 o2 c' s1 s2 h1 h2 e1 e2
    rw [AHeap.at_new] at h1 h2
    simp only [Inj.add] at e1 e2
    by_cases hb1 : b1 = h.next
    · by_cases hb2 : b2 = h.next
      · rw [hb1, hb2]
      · rw [if_pos hb1] at e1; rw [if_neg hb2] at e2; cases e1
        have := hr.rng b2 _ _ e2; omega
    · by_cases hb2 : b2 = h.next
      · rw [if_neg hb1] at e1; rw [if_pos hb2] at e2; cases e2
        have := hr.rng b1 _ _ e1; omega
      · rw [if_neg hb1] at e1 h1; rw [if_neg hb2] at e2 h2
        exact hr.inj b1 b2 o1 o2 c' s1 s2 h1 h2 e1 e2
  · intro b1 o1 c1 s1 h1 a1
    rw [AHeap.at_new] at h1
    simp only [Inj.add] at a1
    by_cases hb1 : b1 = h.next
    · rw [if_pos hb1] at h1 a1; cases h1; cases a1
      refine ⟨x, ?_, ho⟩
      show (w.heap.push x)[w.heap.size]? = _
      simp
    · rw [if_neg hb1] at h1 a1
      obtain ⟨x1, a2, a3⟩ := hr.obj b1 o1 c1 s1 h1 a1
      refine ⟨x1, ?_, a3.mono hx⟩
      show (w.heap.push x)[c1]? = _
      have := hr.rng b1 _ _ a1
      rw [Array.getElem?_push, if_neg (by omega)]; exact a2
  · intro b1 o1 h1
    obtain ⟨q1, q2, q3⟩ := hr.ph b1 o1 h1
    have hne : b1 ≠ h.next := by omega
    refine ⟨Nat.lt_succ_of_lt q1, ?_, ?_⟩
    · simp only [Inj.add]; rw [if_neg hne]; exact q2
    · rw [AHeap.at_new, if_neg hne]; exact q3

/-- a live block of s cells gets another name; the elder one is forgotten -/
theorem HR.rename (hr : HR env W ι h w) {b c s : Nat} {o o' : AObj} {x' : Obj} (hb : h.at b = some o) (hc : ι b = some (c, s))
    (ho : OR env (ι.add h.next (c, s)) o' s x') :
    HR env W (ι.add h.next (c, s)) ((h.put b none).new o') (putObj w c x') := by
  have hx := hr.ext_new (c, s)
  obtain ⟨hlo, hhi⟩ := hr.rng b c s hc
  have hlt : b ≠ h.next := fun e => by rw [hr.fresh b (by omega)] at hc; cases hc
  have hat : ∀ d, ((h.put b none).new o').at d = if d = h.next then some o' else if d = b then none else h.at d := by
    intro d; rw [AHeap.at_new]; show (if d = h.next then _ else _) = _; rw [AHeap.at_put]
  refine ⟨?_, ?_, ?_, ?_, ?_, ?_⟩
  · refine ⟨hr.old.os, hr.old.tape, hr.old.output, by rw [putObj_size]; exact hr.old.size, fun k hk => ?_⟩
    rw [putObj_at _ _ _ _ hhi, if_neg (by omega)]; exact hr.old.block k hk
  · intro d hd
    have hd' : h.next + 1 ≤ d := hd
    simp only [Inj.add]; rw [if_neg (by omega)]; exact hr.fresh d (by omega)
  · intro d c' s' e
    rw [putObj_size]
    simp only [Inj.add] at e
    by_cases hd : d = h.next
    · rw [if_pos hd] at e; cases e; exact ⟨hlo, hhi⟩
    · rw [if_neg hd] at e; exact hr.rng d c' s' e
  · intro b1 b2 o1 o2 c' s1 s2 h1 h2 e1 e2
    rw [hat] at h1 h2
    simp only [Inj.add] at e1 e2
    by_cases hb1 : b1 = h.next
    · by_cases hb2 : b2 = h.next
      · rw [hb1, hb2]
      · exfalso
        rw [if_pos hb1] at e1; rw [if_neg hb2] at e2 h2; cases e1
        by_cases hbb : b2 = b
        · rw [if_pos hbb] at h2; cases h2
        · rw [if_neg hbb] at h2; exact hbb (hr.inj b2 b o2 o _ _ _ h2 hb e2 hc)
    · by_cases hb2 : b2 = h.next
      · exfalso
        rw [if_neg hb1] at e1 h1; rw [if_pos hb2] at e2; cases e2
        by_cases hbb : b1 = b
        · rw [if_pos hbb] at h1; cases h1
        · rw [if_neg hbb] at h1; exact hbb (hr.inj b1 b o1 o _ _ _ h1 hb e1 hc)
      · rw [if_neg hb1] at e1 h1; rw [if_neg hb2] at e2 h2
        split at h1
        · cases h1
        split at h2
        · cases h2
        exact hr.inj b1 b2 o1 o2 c' s1 s2 h1 h2 e1 e2
  · intro b1 o1 c1 s1 h1 a1
    rw [hat] at h1
    simp only [Inj.add] at a1
    by_cases hb1 : b1 = h.next
    · rw [if_pos hb1] at h1 a1; cases h1; cases a1
      exact ⟨x', by rw [putObj_at _ _ _ _ hhi, if_pos rfl], ho⟩
    · rw [if_neg hb1] at h1 a1
      split at h1
      · cases h1
      rename_i hbb
      obtain ⟨x1, a2, a3⟩ := hr.obj b1 o1 c1 s1 h1 a1
      refine ⟨x1, ?_, a3.mono hx⟩
      rw [putObj_at _ _ _ _ hhi, if_neg ?_]
      · exact a2
      · intro ec; subst ec; exact hbb (hr.inj b1 b o1 o c1 s1 s h1 hb a1 hc)
  · intro b1 o1 h1
    obtain ⟨q1, q2, q3⟩ := hr.ph b1 o1 h1
    have hne : b1 ≠ h.next := by omega
    have hnb : b1 ≠ b := fun e => by subst e; rw [q2] at hc; cases hc
    refine ⟨Nat.lt_succ_of_lt q1, ?_, ?_⟩
    · simp only [Inj.add]; rw [if_neg hne]; exact q2
    · rw [hat, if_neg hne, if_neg hnb]; exact q3

/-- what is known of a live row of cells -/
theorem HR.cells (hr : HR env W ι h w) {b c s : Nat} {r : Row} {opn plain : Bool} (hb : h.at b = some (.cells r opn plain)) (hc : ι b = some (c, s)) :
    ∃ cs e fz xs tail, s = cs.size ∧ w.heap[c]? = some (.cells cs e fz) ∧ cs.toList = xs ++ tail ∧ RR env ι r xs ∧ (opn = false → tail = []) ∧
      (fz = (0, 0) ∨ plain = false ∧ cs.size ≤ fz.1) := by
  obtain ⟨x, a2, a3⟩ := hr.obj b _ c s hb hc
  cases a3 with
  | cells _ _ _ cs e fz xs tail h1 h2 h3 h4 => exact ⟨cs, e, fz, xs, tail, rfl, a2, h1, h2, h3, h4⟩

theorem cell_at {w : World} {c : Nat} {cs : Array Value} {e : TypeId} {fz : Nat × Nat} (hw : w.heap[c]? = some (.cells cs e fz)) (i : Nat) :
    w.cell? ⟨c, i, none⟩ = cs.toList[i]? := by
  simp [World.cell?, hw]

theorem add_none (c off i : Nat) : (⟨c, off, none⟩ : Addr).add i = ⟨c, off + i, none⟩ := by
  unfold Addr.add; split
  · rename_i h; subst h; rfl
  · rfl

theorem not_frozen {w : World} {c : Nat} {cs : Array Value} {e : TypeId} {fz : Nat × Nat} (hw : w.heap[c]? = some (.cells cs e fz)) {plain : Bool}
    (hf : fz = (0, 0) ∨ plain = false ∧ cs.size ≤ fz.1) (i : Nat) (hi : i < cs.size) : w.frozen? ⟨c, i, none⟩ = false := by
  obtain ⟨lo, hi'⟩ := fz
  simp only [World.frozen?, hw]
  rcases hf with h | ⟨_, h⟩
  · cases h; simp
  · simp at h; simp; omega

theorem run_loadCells_here (P : Program) {w : World} {c off : Nat} {cs : Array Value} {e : TypeId} {fz : Nat × Nat} (hw : w.heap[c]? = some (.cells cs e fz))
    {a b d : List Value} (hl : cs.toList = a ++ (b ++ d)) (ha : a.length = off) : (loadCells ⟨c, off, none⟩ b.length).run P w = .ok b.toArray w := by
  refine run_loadCells_list w _ b fun j v hj => ?_
  rw [add_none, cell_at hw, hl, ← ha]
  have hjb : j < b.length := by
    rcases Nat.lt_or_ge j b.length with h | h
    · exact h
    · rw [List.getElem?_eq_none h] at hj; cases hj
  rw [List.getElem?_append_right (by omega), Nat.add_sub_cancel_left, List.getElem?_append_left hjb, hj]

theorem setCell_put {w : World} {c i : Nat} {cs : Array Value} {e : TypeId} {fz : Nat × Nat} (hw : w.heap[c]? = some (.cells cs e fz)) (v : Value) :
    w.setCell ⟨c, i, none⟩ v = putObj w c (.cells (cs.setIfInBounds i v) e fz) := by
  have hc : c < w.heap.size := by
    rcases Nat.lt_or_ge c w.heap.size with h | h
    · exact h
    · rw [Array.getElem?_eq_none h] at hw; cases hw
  have : (w.setCell ⟨c, i, none⟩ v).heap = (putObj w c (.cells (cs.setIfInBounds i v) e fz)).heap := by
    apply Array.ext_getElem?
    intro k
    rw [putObj_at _ _ _ _ hc]
    simp only [World.setCell, Array.getElem?_modify]
    by_cases hk : k = c
    · subst hk; simp [hw]
    · rw [if_neg hk, if_neg (fun h => hk h.symm)]
  simp only [World.setCell, putObj] at this ⊢
  rw [this]

theorem run_storeCells_here (P : Program) {c off : Nat} {e : TypeId} {fz : Nat × Nat} {plain : Bool} : ∀ (vs : List Value) (i : Nat) (w : World) (cs : Array Value),
    w.heap[c]? = some (.cells cs e fz) → (fz = (0, 0) ∨ plain = false ∧ cs.size ≤ fz.1) → off + i + vs.length ≤ cs.size → (∀ v ∈ vs, v.oneCell' = true) →
    (storeCells ⟨c, off, none⟩ vs i).run P w = .ok () (putObj w c (.cells (cs.toList.take (off + i) ++ vs ++ cs.toList.drop (off + i + vs.length)).toArray e fz))
  | [], i, w, cs, hw, _, _, _ => by
    have : (cs.toList.take (off + i) ++ [] ++ cs.toList.drop (off + i + ([] : List Value).length)).toArray = cs := by simp
    rw [this, putObj_self w c _ hw]; rfl
  | v :: vs, i, w, cs, hw, hf, hl, h1 => by
    have hi : off + i < cs.size := by simp at hl; omega
    have hc : c < w.heap.size := by
      rcases Nat.lt_or_ge c w.heap.size with h | h
      · exact h
      · rw [Array.getElem?_eq_none h] at hw; cases hw
    have hst : (store ((⟨c, off, none⟩ : Addr).add i) v).run P w = .ok () (putObj w c (.cells (cs.setIfInBounds (off + i) v) e fz)) := by
      rw [add_none, run_store P w _ v _ (h1 v (by simp)), cell_at hw, List.getElem?_eq_getElem (by simpa using hi)]
      simp only [not_frozen hw hf _ hi]
      simp [setCell_put hw v]
    have hw' : (putObj w c (.cells (cs.setIfInBounds (off + i) v) e fz)).heap[c]? = some (.cells (cs.setIfInBounds (off + i) v) e fz) := by
      rw [putObj_at _ _ _ _ hc, if_pos rfl]
    have ih := run_storeCells_here P (c := c) (off := off) (e := e) (fz := fz) (plain := plain) vs (i + 1) _ _ hw' (by simpa using hf) (by simp at hl ⊢; omega) (fun x hx => h1 x (by simp [hx]))
    simp only [storeCells, Sem.run_bind, hst, Result.andThen_ok, ih, putObj_putObj]
    congr 4
    have e1 : off + (i + 1) = off + i + 1 := by omega
    rw [e1]
    apply List.ext_getElem?
    intro k
    have hll : off + i + (vs.length + 1) ≤ cs.toList.length := by simpa using hl
    simp only [Array.toList_setIfInBounds, List.getElem?_append, List.length_append, List.length_take, List.length_set, List.length_cons, List.getElem?_take, List.getElem?_drop, List.getElem?_set, List.getElem?_cons]
    have m1 : min (off + i + 1) cs.toList.length = off + i + 1 := by omega
    have m2 : min (off + i) cs.toList.length = off + i := by omega
    rw [m1, m2]
    by_cases k1 : k < off + i
    · have : ¬ off + i = k := by omega
      simp [k1, show k < off + i + 1 + vs.length from by omega, show k < off + i + 1 from by omega, show k < off + i + (vs.length + 1) from by omega, this]
    · by_cases k2 : k = off + i
      · subst k2
        simp [show off + i < off + i + 1 + vs.length from by omega, show off + i < cs.size from hi]
      · by_cases k3 : k < off + i + 1 + vs.length
        · simp [k3, k1, show ¬ k < off + i + 1 from by omega, show k < off + i + (vs.length + 1) from by omega, show ¬ k - (off + i) = 0 from by omega]
          congr 1
        · simp [k3, show ¬ k < off + i + (vs.length + 1) from by omega]
          have a1 : off + i + 1 + vs.length + (k - (off + i + 1 + vs.length)) = k := by omega
          have a2 : off + i + (vs.length + 1) + (k - (off + i + (vs.length + 1))) = k := by omega
          simp [a1, a2, show ¬ off + i = k from fun h => k2 h.symm]

end
end Go.Ab
