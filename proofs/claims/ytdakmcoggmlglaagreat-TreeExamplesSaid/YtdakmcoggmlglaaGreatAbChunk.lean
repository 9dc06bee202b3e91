/- Runs in parts: a call whose beginning and end are written out; it answers for itself in a greater run. -/
import Derived.Test.YtdakmcoggmlglaaGreatAbSound3
import Derived.Test.YtdakmcoggmlglaaGreatAbFast6
set_option linter.all false
set_option linter.unusedVariables false
set_option linter.unusedSimpArgs false
namespace Go.Ab
open Go.RowKit
noncomputable section

variable {P : Program} {env : Nat → Value} {W : Base} {w : World} {ι : Inj} {h h' : AHeap}

/-! the same, to the letter -/

def andB (a b : Bool) : Bool := Bool.rec false b a
theorem andB_true {a b : Bool} (h : andB a b = true) : a = true ∧ b = true := by
  cases a
  · cases h
  · exact ⟨rfl, h⟩

def sameL (l : List AV) : List AV → Bool :=
  List.rec (fun r => List.rec true (fun _ _ _ => false) r) (fun x _ ih r => List.rec false (fun y r' _ => andB (sameV 20 x y) (ih r')) r) l
theorem sameL_eq : ∀ (l r : List AV), sameL l r = true → l = r
  | [], [], _ => rfl
  | [], _ :: _, h => by cases h
  | _ :: _, [], h => by cases h
  | x :: l, y :: r, h => by
    obtain ⟨h1, h2⟩ := andB_true (a := sameV 20 x y) (b := sameL l r) h
    rw [sameV_eq _ _ _ h1, sameL_eq l r h2]

def sameR (x y : AV) : Bool :=
  match x, y with
  | .tup l, .tup r => sameL l r
  | x, y => sameV 20 x y
theorem sameR_eq {x y : AV} (h : sameR x y = true) : x = y := by
  unfold sameR at h
  split at h
  · rw [sameL_eq _ _ h]
  · exact sameV_eq _ _ _ h

def sameE (l : List AEnt) : List AEnt → Bool :=
  List.rec (fun r => List.rec true (fun _ _ _ => false) r) (fun x _ ih r => List.rec false (fun y r' _ => andB (sameV 20 x.key y.key) (andB (sameV 20 x.val y.val) (andB (Nat.beq x.born y.born) (ih r')))) r) l
theorem sameE_eq : ∀ (l r : List AEnt), sameE l r = true → l = r
  | [], [], _ => rfl
  | [], _ :: _, h => by cases h
  | _ :: _, [], h => by cases h
  | x :: l, y :: r, h => by
    obtain ⟨h1, h2⟩ := andB_true (a := sameV 20 x.key y.key) h
    obtain ⟨h3, h4⟩ := andB_true (a := sameV 20 x.val y.val) h2
    obtain ⟨h5, h6⟩ := andB_true (a := Nat.beq x.born y.born) (b := sameE l r) h4
    rw [sameE_eq l r h6]
    obtain ⟨k, v, b⟩ := x
    obtain ⟨k', v', b'⟩ := y
    have e1 : k = k' := sameV_eq _ _ _ h1
    have e2 : v = v' := sameV_eq _ _ _ h3
    have e3 : b = b' := beqT h5
    subst e1 e2 e3; rfl

def sameO (x y : AObj) : Bool :=
  match x, y with
  | .cells r o p, .cells r' o' p' => andB (sameRow (sameV 20) r r') (andB (beqB o o') (beqB p p'))
  | .map l c, .map l' c' => andB (sameE l l') (Nat.beq c c')
  | .dfr t, .dfr t' => beqB t t'
  | _, _ => false
theorem beqB_true {a b : Bool} (h : beqB a b = true) : a = b := by rw [beqB_eq] at h; exact beq_iff_eq.1 h
theorem sameO_eq {x y : AObj} (h : sameO x y = true) : x = y := by
  unfold sameO at h
  split at h
  · obtain ⟨h1, h2⟩ := andB_true h
    obtain ⟨h3, h4⟩ := andB_true h2
    rw [sameRow_eq (fun x y => sameV_eq 20 x y) _ _ h1, beqB_true h3, beqB_true h4]
  · obtain ⟨h1, h2⟩ := andB_true h
    rw [sameE_eq _ _ h1, beqT h2]
  · rw [beqB_true h]
  · cases h

/-! memory that is written out -/

structure HL where
  next : Nat
  objs : List (Nat × AObj)

def fillHH (l : List (Nat × AObj)) : HH AObj → HH AObj :=
  List.rec (fun t => t) (fun p _ ih t => Prod.rec (motive := fun _ => HH AObj → HH AObj) (fun b o t => HH.rec (fun lo hi => ih ⟨lo, hi⟩) ((hputB b).run (some o) t)) p t) l
def HL.heap (x : HL) : AHeap := HL.rec (fun n l => HH.rec (fun lo hi => ⟨n, ⟨lo, hi⟩⟩) (fillHH l .empty)) x
theorem HL.heap_next (x : HL) : x.heap.next = x.next := by
  obtain ⟨n, l⟩ := x
  rfl

/-- one cell: of memory that is kept (x), and as it was (y); what is of the number lim and above may be forgotten -/
def keptC (lim b : Nat) (x y : Option AObj) : Bool :=
  Option.rec (Option.rec true (fun _ => Nat.ble lim b) y) (fun o => Option.rec false (fun o' => sameO o o') y) x
theorem keptC_ok {lim b : Nat} {x y : Option AObj} (h : keptC lim b x y = true) : x = y ∨ x = none ∧ lim ≤ b := by
  cases x with
  | none => cases y with
    | none => exact .inl rfl
    | some o => exact .inr ⟨rfl, bleT h⟩
  | some o => cases y with
    | none => cases h
    | some o' => exact .inl (by rw [sameO_eq h])

def keptN (lim i : Nat) (x y : W16 (Option AObj)) (n : Nat) : Bool :=
  Nat.rec true (fun k ih => andB (keptC lim (Nat.add (Nat.mul 16 i) k) ((selN k).go x) ((selN k).go y)) ih) n
theorem keptN_ok {lim i : Nat} {x y : W16 (Option AObj)} : ∀ {n : Nat}, keptN lim i x y n = true → ∀ k, k < n → keptC lim (16 * i + k) ((selN k).go x) ((selN k).go y) = true
  | 0, _, k, hk => by omega
  | n + 1, h, k, hk => by
    obtain ⟨h1, h2⟩ := andB_true (a := keptC lim (Nat.add (Nat.mul 16 i) n) ((selN n).go x) ((selN n).go y)) (b := keptN lim i x y n) h
    by_cases e : k = n
    · subst e; exact h1
    · exact keptN_ok h2 k (by omega)

def keptW (lim i : Nat) (x y : Option (W16 (Option AObj))) : Bool :=
  Option.rec (Option.rec true (fun w' => keptN lim i (fill none) w' 16) y) (fun w => keptN lim i w (leafOf y) 16) x
theorem keptW_ok {lim i : Nat} {x y : Option (W16 (Option AObj))} (h : keptW lim i x y = true) (k : Nat) (hk : k < 16) :
    keptC lim (16 * i + k) (Option.rec none (selN k).go x) (Option.rec none (selN k).go y) = true := by
  cases x with
  | none =>
    cases y with
    | none => rfl
    | some w' =>
      have := keptN_ok (n := 16) h k hk
      rw [sel_fill _ hk] at this
      exact this
  | some w =>
    have := keptN_ok (n := 16) h k hk
    cases y with
    | none =>
      have e : (selN k).go (leafOf (none : Option (W16 (Option AObj)))) = none := sel_fill _ hk _
      rw [e] at this
      exact this
    | some w' => exact this

def keptT (lim : Nat) (x y : HH AObj) (n : Nat) : Bool := Nat.rec true (fun i ih => andB (keptW lim i (x.leaf i) (y.leaf i)) ih) n
theorem keptT_ok {lim : Nat} {x y : HH AObj} : ∀ {n : Nat}, keptT lim x y n = true → ∀ i, i < n → keptW lim i (x.leaf i) (y.leaf i) = true
  | 0, _, i, hi => by omega
  | n + 1, h, i, hi => by
    obtain ⟨h1, h2⟩ := andB_true (a := keptW lim n (x.leaf n) (y.leaf n)) (b := keptT lim x y n) h
    by_cases e : i = n
    · subst e; exact h1
    · exact keptT_ok h2 i (by omega)

/-- x is y, but for what is forgotten of the number lim and above -/
def keptH (lim : Nat) (x y : AHeap) : Bool :=
  andB (Nat.beq x.next y.next) (andB (Nat.ble y.next 65535) (keptT lim x.t y.t (Nat.succ (high y.next))))
theorem keptH_ok {lim : Nat} {x y : AHeap} (h : keptH lim x y = true) : x.next = y.next ∧ ∀ b, b < y.next → x.at b = y.at b ∨ x.at b = none ∧ lim ≤ b := by
  obtain ⟨h1, h2⟩ := andB_true h
  obtain ⟨h3, h4⟩ := andB_true h2
  have hle := bleT h3
  refine ⟨beqT h1, fun b hb => ?_⟩
  have e1 : high b = b / 16 := rfl
  have e2 : high y.next = y.next / 16 := rfl
  have hw := keptW_ok (keptT_ok h4 (high b) (by omega)) (low b) (low_lt b)
  have e3 : 16 * high b + low b = b := by
    have : low b = b % 16 := rfl
    omega
  rw [e3, ← hgetB_lo b (by omega) x.t, ← hgetB_lo b (by omega) y.t] at hw
  exact keptC_ok hw

theorem HR.kept {g : AHeap} (hr : HR env W ι h w) {lim : Nat} (hk : keptH lim g h = true) (hp : ∀ b o, W.ph b = some o → b < lim) : HR env W ι g w := by
  obtain ⟨h1, h2⟩ := keptH_ok hk
  have key : ∀ b o, g.at b = some o → b < h.next → h.at b = some o := by
    intro b o hb hlt
    rcases h2 b hlt with e | ⟨e, _⟩
    · rw [← e]; exact hb
    · rw [e] at hb; cases hb
  have lt : ∀ b p, ι b = some p → b < h.next := by
    intro b p hb
    rcases Nat.lt_or_ge b h.next with hlt | hge
    · exact hlt
    · rw [hr.fresh b hge] at hb; cases hb
  refine ⟨hr.old, fun b hb => hr.fresh b (by rw [← h1]; exact hb), hr.rng, ?_, ?_, ?_⟩
  · intro b b' o o' c s s' hb hb' e e'
    exact hr.inj b b' o o' c s s' (key b o hb (lt b _ e)) (key b' o' hb' (lt b' _ e')) e e'
  · intro b o c s hb e
    exact hr.obj b o c s (key b o hb (lt b _ e)) e
  · intro b o hb
    obtain ⟨a1, a2, a3⟩ := hr.ph b o hb
    refine ⟨by rw [h1]; exact a1, a2, ?_⟩
    rcases h2 b a1 with e | ⟨_, e⟩
    · rw [e]; exact a3
    · have := hp b o hb; omega

/-! calls that are known -/

structure Known where
  f : FuncId
  args : List AV
  key : HL
  r : AV
  lit : HL

def KnownOk (P : Program) (k : Known) : Prop :=
  ∀ (env : Nat → Value) (W : Base) (ι : Inj) (w : World) (xs : List Value), LR env ι k.args xs → HR env W ι k.key.heap w → Calls P k.f xs.toArray w (RetOk env W ι k.r k.lit.heap)

/-- what is known is looked up -/
def ask (ks : List Known) (J : JobF) : JobF := fun j args h =>
  Job.rec (motive := fun _ => List AV → AHeap → Option (AV × AHeap)) (fun f args h =>
    List.rec (motive := fun _ => Option (AV × AHeap)) (J (.fn f) args h)
      (fun k _ ih => Bool.rec (motive := fun _ => Option (AV × AHeap)) ih
        (Bool.rec (motive := fun _ => Option (AV × AHeap)) none (some (k.r, k.lit.heap)) (andB (sameL k.args args) (keptH h.next k.key.heap h)))
        (andB (Nat.beq k.f f) (Nat.beq k.key.next h.next))) ks)
    (fun f => J (.dfn f)) (fun b => J (.rnd b)) j args h

theorem ask_ok {J : JobF} (hJ : JOk P J) {ks : List Known} (hk : ∀ k ∈ ks, KnownOk P k) : JOk P (ask ks J) := by
  intro j args h r h' he
  cases j with
  | dfn f => exact hJ (.dfn f) args h r h' he
  | rnd b => exact hJ (.rnd b) args h r h' he
  | fn f =>
    have main : ∀ ks : List Known, (∀ k ∈ ks, KnownOk P k) → ask ks J (.fn f) args h = some (r, h') →
        ∀ (env : Nat → Value) (W : Base) (ι : Inj) (w : World) (xs : List Value), LR env ι args xs → HR env W ι h w → Calls P f xs.toArray w (RetOk env W ι r h') := by
      intro ks
      induction ks with
      | nil => intro _ he; exact hJ (.fn f) args h r h' he
      | cons k ks ih =>
        intro hk he
        have he' : Bool.rec (motive := fun _ => Option (AV × AHeap)) (ask ks J (.fn f) args h)
            (Bool.rec (motive := fun _ => Option (AV × AHeap)) none (some (k.r, k.lit.heap)) (andB (sameL k.args args) (keptH h.next k.key.heap h)))
            (andB (Nat.beq k.f f) (Nat.beq k.key.next h.next)) = some (r, h') := he
        cases h1 : andB (Nat.beq k.f f) (Nat.beq k.key.next h.next) with
        | false => rw [h1] at he'; exact ih (fun k' hk' => hk k' (List.mem_cons_of_mem _ hk')) he'
        | true =>
          rw [h1] at he'
          cases h2 : andB (sameL k.args args) (keptH h.next k.key.heap h) with
          | false => rw [h2] at he'; cases he'
          | true =>
            rw [h2] at he'
            cases he'
            obtain ⟨a1, _⟩ := andB_true h1
            obtain ⟨b1, b2⟩ := andB_true h2
            have ef : k.f = f := beqT a1
            have ea := sameL_eq _ _ b1
            intro env W ι w xs hl hr
            have := hk k (List.mem_cons_self ..) env W ι w xs (by rw [ea]; exact hl) (hr.kept b2 fun b o hb => (hr.ph b o hb).1)
            rw [← ef]; exact this
    exact main ks hk he

/-- the run of a known call -/
def checkRun (P : Program) (L : Nat) (J : JobF) (k : Known) : Bool :=
  Option.rec false (fun p => Prod.rec (fun r h => andB (sameR k.r r) (keptH k.key.next k.lit.heap h)) p) ((fnF P L k.f).run J k.args k.key.heap)

theorem known_of_run {L : Nat} {J : JobF} (hJ : JOk P J) {k : Known} (hc : checkRun P L J k = true) : KnownOk P k := by
  intro env W ι w xs hl hr
  unfold checkRun at hc
  cases hx : (fnF P L k.f).run J k.args k.key.heap with
  | none => rw [hx] at hc; cases hc
  | some p =>
    rw [hx] at hc
    obtain ⟨r, h⟩ := p
    obtain ⟨h1, h2⟩ := andB_true (a := sameR k.r r) (b := keptH k.key.next k.lit.heap h) hc
    have er := sameR_eq h1
    rw [fnF_eq] at hx
    refine (callFn_ok hJ (evC_ok hJ L) hx hl hr).mono ?_
    rintro e w' ⟨ι', x, g1, g2, g3, g4⟩
    refine ⟨ι', x, g1, g2, by rw [er]; exact g3, g4.kept h2 fun b o hb => ?_⟩
    have := (hr.ph b o hb).1
    rw [HL.heap_next] at this
    exact this

theorem jobF_ok (P : Program) (L n : Nat) : JOk P (jobF P L n) := by rw [jobF_eq]; exact job_ok P L n

/-- the run of a call that begins with nothing: its answer alone -/
def checkEnd (P : Program) (L : Nat) (J : JobF) (f : FuncId) (args : List AV) (r : AV) : Bool :=
  Option.rec false (fun p => Prod.rec (fun r' _ => sameR r r') p) ((fnF P L f).run J args ⟨0, .empty⟩)

theorem end_of_run {L : Nat} {J : JobF} (hJ : JOk P J) {f : FuncId} {args : List AV} {r : AV} (hc : checkEnd P L J f args r = true) (env : Nat → Value) (w : World) (xs : List Value) (hl : LR env (fun _ => none) args xs) :
    Calls P f xs.toArray w (fun e w' => ∃ ι' x, e = .returned x ∧ VR env ι' r x ∧ Below w.heap.size w w') := by
  unfold checkEnd at hc
  cases hx : (fnF P L f).run J args ⟨0, .empty⟩ with
  | none => rw [hx] at hc; cases hc
  | some p =>
    rw [hx] at hc
    obtain ⟨r', h'⟩ := p
    have er := sameR_eq (x := r) (y := r') hc
    rw [fnF_eq] at hx
    have h0 : HR env ⟨w, fun _ => none⟩ (fun _ => none) ⟨0, .empty⟩ w := by
      refine ⟨⟨rfl, rfl, rfl, Nat.le_refl _, fun k _ => rfl⟩, fun b _ => rfl, fun b c s hb => (by cases hb), fun b b' o o' c s s' h1 h2 h3 => (by cases h3), fun b o c s h1 h2 => (by cases h2), fun b o hb => (by cases hb)⟩
    refine (callFn_ok hJ (evC_ok hJ L) hx hl h0).mono ?_
    rintro e w' ⟨ι', x, g1, g2, g3, g4⟩
    exact ⟨ι', x, g1, by rw [er]; exact g3, g4.old⟩

end
end Go.Ab
