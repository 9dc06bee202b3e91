/- Operations on memory: their abstract twins, and that these stand for them. -/
import Derived.Test.YtdakmcoggmlglaaGreatAbInt
set_option linter.all false
namespace Go.Ab
open Go.RowKit
noncomputable section

variable {P : Program} {env : Nat → Value} {W : Base} {w : World} {ι : Inj} {h h' : AHeap}

/-- s comes to a value that v stands for, and to memory that h' stands for -/
def Good (P : Program) (env : Nat → Value) (W : Base) (s : Sem Value) (w : World) (ι : Inj) (v : AV) (h' : AHeap) : Prop :=
  ∃ ι' w' x, s.run P w = .ok x w' ∧ Ext ι ι' ∧ VR env ι' v x ∧ HR env W ι' h' w'

def Done (P : Program) (env : Nat → Value) (W : Base) (s : Sem Unit) (w : World) (ι : Inj) (h' : AHeap) : Prop :=
  ∃ ι' w', s.run P w = .ok () w' ∧ Ext ι ι' ∧ HR env W ι' h' w'

theorem Good.same {s : Sem Value} {v : AV} {x : Value} (hr : HR env W ι h w) (hs : s.run P w = .ok x w) (hv : VR env ι v x) : Good P env W s w ι v h :=
  ⟨ι, w, x, hs, .refl ι, hv, hr⟩

def isAggD : TypeDesc → Bool
  | .struct _ => true
  | .array _ _ => true
  | _ => false

def omap {α β : Type} (f : α → β) (x : Option α) : Option β := Option.rec none (fun a => some (f a)) x
theorem omap_eq {α β : Type} {f : α → β} {x : Option α} {b : β} (h : omap f x = some b) : ∃ a, x = some a ∧ f a = b := by
  cases x with
  | none => cases h
  | some a => cases h; exact ⟨a, rfl, rfl⟩

def szOf (P : Program) (t : TypeId) : Option Nat := omap (fun i => i.size) (P.info? t)
def aggOf (P : Program) (t : TypeId) : Option Bool := omap isAggD (P.underlying t)
def zeroOf (P : Program) (t : TypeId) : Option AV := obind (P.info? t) fun i => obind i.zero ofV

theorem run_sizeOf {t : TypeId} {n : Nat} (hn : szOf P t = some n) (w : World) : (sizeOf t).run P w = .ok n w := by
  obtain ⟨i, hi, rfl⟩ := omap_eq hn
  simp [sizeOf, typeInfo, hi]

theorem run_isAgg {t : TypeId} {g : Bool} (hg : aggOf P t = some g) (w : World) : (isAgg t).run P w = .ok g w := by
  obtain ⟨d, hd, rfl⟩ := omap_eq hg
  simp only [isAgg, Sem.run_bind, run_underlying hd, Result.andThen_ok]
  cases d <;> rfl

theorem run_zeroValue {t : TypeId} {v : AV} (hv : zeroOf P t = some v) (w : World) : ∃ x, (zeroValue t).run P w = .ok x w ∧ ∀ ι, VR env ι v x := by
  obtain ⟨i, hi, h1⟩ := obind_eq hv
  obtain ⟨x, hx, h2⟩ := obind_eq h1
  exact ⟨x, by simp [zeroValue, typeInfo, hi, hx], fun ι => ofV_ok h2⟩

theorem newVar_ok (hr : HR env W ι h w) {v : AV} {r : Row} {x : Value} (t : TypeId) (hv : VR env ι v x) (hrow : vrow v = some r) :
    ∃ ι' w' a, (newVar t x).run P w = .ok a w' ∧ Ext ι ι' ∧ VR env ι' (.ptr h.next 0) (.pointer (some a)) ∧ HR env W ι' (h.new (.cells r false true)) w' := by
  refine ⟨ι.add h.next (w.heap.size, x.cells.size), { w with heap := w.heap.push (.cells x.cells t) }, ⟨w.heap.size, 0, none⟩, ?_, hr.ext_new _, ?_, ?_⟩
  · simp [newVar, newRow]
  · exact .ptr _ _ _ x.cells.size (by simp [Inj.add])
  · exact hr.new (.cells r false true x.cells t (0, 0) x.cells.toList [] (by simp) ((hv.vrow hrow).mono (hr.ext_new _)) (fun _ => rfl) (.inl rfl))

def boxA (v : AV) (h : AHeap) : Option (AV × AHeap) := obind (vrow v) fun r => forceN h.next fun b => some (.ptr b 0, h.new (.cells r false true))

theorem boxA_ok (hr : HR env W ι h w) {v u : AV} {x : Value} (t : TypeId) (hv : VR env ι v x) (hb : boxA v h = some (u, h')) : Good P env W (Instr.box t x) w ι u h' := by
  obtain ⟨r, hrow, h1⟩ := obind_eq hb
  rw [forceN_eq] at h1
  cases h1
  obtain ⟨ι', w', a, h1, h2, h3, h4⟩ := newVar_ok (P := P) hr t hv hrow
  exact ⟨ι', w', _, by simp [Instr.box, h1], h2, h3, h4⟩

def allocA (P : Program) (t : TypeId) (h : AHeap) : Option (AV × AHeap) := obind (zeroOf P t) fun v => boxA v h

theorem allocA_ok (hr : HR env W ι h w) {u : AV} (t : TypeId) (hb : allocA P t h = some (u, h')) : Good P env W (Instr.alloc t true (.tuple #[])) w ι u h' := by
  obtain ⟨v, hv, h1⟩ := obind_eq hb
  obtain ⟨r, hrow, h2⟩ := obind_eq h1
  rw [forceN_eq] at h2
  cases h2
  obtain ⟨x, hx, hvr⟩ := run_zeroValue (env := env) hv w
  obtain ⟨ι', w', a, h1, h2, h3, h4⟩ := newVar_ok (P := P) hr t (hvr ι) hrow
  exact ⟨ι', w', _, by simp [Instr.alloc, hx, h1], h2, h3, h4⟩

def loadA (P : Program) (t : TypeId) (v : AV) (h : AHeap) : Option AV :=
  match v with
  | .ptr b off => obind (h.at b) fun o => match o with
    | .cells r _ _ => obind (aggOf P t) fun g => bif' g (obind (szOf P t) fun n => obind (rsub r off n) fun q => some (.agg q)) (rget r off)
    | _ => none
  | _ => none

theorem loadA_ok (hr : HR env W ι h w) {t : TypeId} {v u : AV} {x : Value} (hv : VR env ι v x) (hl : loadA P t v h = some u) : Good P env W (Instr.loadAt t x) w ι u h := by
  cases hv <;> first | (cases hl; done) | skip
  rename_i b off c s hc
  obtain ⟨o, ho, h1⟩ := obind_eq hl
  cases o with
  | cells r opn plain =>
    obtain ⟨g, hg, h2⟩ := obind_eq h1
    obtain ⟨cs, e, fz, xs, tail, rfl, a2, a3, a4, _, _⟩ := hr.cells ho hc
    have a1 := hc
    rcases bif'_some h2 with ⟨rfl, h3⟩ | ⟨rfl, h3⟩
    · obtain ⟨n, hn, h4⟩ := obind_eq h3
      obtain ⟨q, hq, h5⟩ := obind_eq h4
      cases h5
      obtain ⟨p1, p2, p3, e1, e2, e3, e4⟩ := a4.rsub hq
      subst e1
      have hld := run_loadCells_here P (w := w) (c := c) (off := off) a2 (a := p1) (b := p2) (d := p3 ++ tail) (by rw [a3]; simp [List.append_assoc]) e2
      rw [e3] at hld
      refine Good.same hr (x := .agg p2.toArray) ?_ (.agg q _ e4)
      simp [Instr.loadAt, Instr.sureAddr, loadVar, run_isAgg hg, run_sizeOf hn, hld]
    · obtain ⟨p1, y, p3, e1, e2, e3, _⟩ := a4.rget h3
      subst e1
      refine Good.same hr (x := y) ?_ e3
      have hcell : w.cell? ⟨c, off, none⟩ = some y := by
        rw [cell_at a2, a3, ← e2]; simp
      simp [Instr.loadAt, Instr.sureAddr, loadVar, run_isAgg hg, hcell]
  | _ => cases h1

/-- cells of a live row are written -/
def writeA (h : AHeap) (b off : Nat) (q : Row) : Option AHeap :=
  obind (h.at b) fun o => match o with
  | .cells r opn plain => obind (rset r off q) fun r' => some (h.put b (some (.cells r' opn plain)))
  | _ => none

theorem writeA_ok (hr : HR env W ι h w) {b off c s : Nat} {q : Row} {ys : List Value} (hq : RR env ι q ys) (hc : ι b = some (c, s)) (hw : writeA h b off q = some h') :
    ∃ w', (storeCells ⟨c, off, none⟩ ys).run P w = .ok () w' ∧ HR env W ι h' w' := by
  obtain ⟨o, ho, h1⟩ := obind_eq hw
  cases o with
  | cells r opn plain =>
    obtain ⟨r', hr', h2⟩ := obind_eq h1
    cases h2
    obtain ⟨cs, e, fz, xs, tail, rfl, a2, a3, a4, a5, a6⟩ := hr.cells ho hc
    have a1 := hc
    obtain ⟨p1, p2, p3, e1, e2, e3, e4⟩ := a4.rset hq hr'
    subst e1
    have hlen : off + 0 + ys.length ≤ cs.size := by
      rw [← Array.length_toList, a3]; simp; omega
    have hst := run_storeCells_here P (c := c) (off := off) (e := e) (fz := fz) (plain := plain) ys 0 w cs a2 a6 hlen (hq.one')
    have hnew : cs.toList.take (off + 0) ++ ys ++ cs.toList.drop (off + 0 + ys.length) = (p1 ++ (ys ++ p3)) ++ tail := by
      rw [a3, ← e3, ← e2]
      simp only [List.append_assoc, Nat.add_zero]
      rw [List.take_append_of_le_length (by simp), List.take_of_length_le (by simp)]
      congr 1
      rw [← List.append_assoc, List.drop_append_of_le_length (by simp)]
      have : p1.length + p2.length = (p1 ++ p2).length := by simp
      rw [this]
      simp
    rw [hnew] at hst
    refine ⟨_, hst, hr.set ho a1 ?_⟩
    have hsz : cs.size = ((p1 ++ (ys ++ p3)) ++ tail).toArray.size := by
      rw [← Array.length_toList, a3]; simp; omega
    rw [hsz]
    exact .cells r' opn plain _ e fz _ tail (by simp) e4 a5 (by rw [← hsz]; exact a6)
  | _ => cases h1

def storeA (P : Program) (t : TypeId) (a v : AV) (h : AHeap) : Option AHeap :=
  match a with
  | .ptr b off => obind (vrow v) fun q => obind (szOf P t) fun n => bif' (Nat.beq (rlen q) n) (writeA h b off q) none
  | _ => none

theorem storeA_ok (hr : HR env W ι h w) {t : TypeId} {a v : AV} {x y : Value} (ha : VR env ι a x) (hv : VR env ι v y) (hs : storeA P t a v h = some h') :
    ∃ w', (Instr.storeAt t x y).run P w = .ok () w' ∧ HR env W ι h' w' := by
  cases ha <;> first | (cases hs; done) | skip
  rename_i b off c s hc
  obtain ⟨q, hq, h1⟩ := obind_eq hs
  obtain ⟨n, hn, h2⟩ := obind_eq h1
  rcases bif'_some h2 with ⟨hb, h3⟩ | ⟨_, h3⟩
  · have hrow := hv.vrow hq
    obtain ⟨w', hw', hr'⟩ := writeA_ok (P := P) hr hrow hc h3
    refine ⟨w', ?_, hr'⟩
    have hlen : y.cells.size = n := by rw [← Array.length_toList, hrow.length]; exact beqT hb
    simp [Instr.storeAt, Instr.sureAddr, storeVar, run_sizeOf hn, hlen, hw']
  · cases h3

def fieldOff (P : Program) (s : TypeId) (f : Nat) : Option Nat :=
  obind (P.underlying s) fun d => match d with
  | .struct fs => obind fs[f]? fun fd => obind (szOf P fd.type) fun n => bif' (Nat.beq n 0) none (some fd.offset)
  | _ => none

def fieldAtA (P : Program) (s : TypeId) (v : AV) (f : Nat) : Option AV :=
  match v with
  | .ptr b off => obind (fieldOff P s f) fun o => forceN (Nat.add off o) fun o' => some (.ptr b o')
  | _ => none

theorem fieldAtA_ok (hr : HR env W ι h w) {s : TypeId} {f : Nat} {v u : AV} {x : Value} (hv : VR env ι v x) (hl : fieldAtA P s v f = some u) : Good P env W (Instr.fieldAt s x f) w ι u h := by
  cases hv <;> first | (cases hl; done) | skip
  rename_i b off c sz hc
  obtain ⟨o, ho, h1⟩ := obind_eq hl
  rw [forceN_eq] at h1
  cases h1
  obtain ⟨d, hd, h2⟩ := obind_eq ho
  cases d <;> first | (cases h2; done) | skip
  rename_i fs
  obtain ⟨fd, hfd, h3⟩ := obind_eq h2
  obtain ⟨n, hn, h4⟩ := obind_eq h3
  rcases bif'_some h4 with ⟨_, h5⟩ | ⟨hn0, h5⟩
  · cases h5
  · cases h5
    have : n ≠ 0 := beqF hn0
    refine Good.same hr (x := .pointer (some ⟨c, off + fd.offset, none⟩)) ?_ (.ptr _ _ _ _ hc)
    simp [Instr.fieldAt, run_underlying hd, hfd, Instr.sureAddr, fieldPlace, run_sizeOf hn, this, add_none]

/-- a part of an aggregate -/
def partA (P : Program) (t : TypeId) (r : Row) (off : Nat) : Option AV :=
  obind (aggOf P t) fun g => bif' g (obind (szOf P t) fun n => obind (rsub r off n) fun q => some (.agg q)) (rget r off)

theorem partA_ok {t : TypeId} {r : Row} {off : Nat} {u : AV} {xs : List Value} (hrow : RR env ι r xs) (hl : partA P t r off = some u) (w : World) :
    ∃ x, (part t xs.toArray off).run P w = .ok x w ∧ VR env ι u x := by
  obtain ⟨g, hg, h2⟩ := obind_eq hl
  rcases bif'_some h2 with ⟨rfl, h3⟩ | ⟨rfl, h3⟩
  · obtain ⟨n, hn, h4⟩ := obind_eq h3
    obtain ⟨q, hq, h5⟩ := obind_eq h4
    cases h5
    obtain ⟨p1, p2, p3, e1, e2, e3, e4⟩ := hrow.rsub hq
    subst e1
    refine ⟨.agg p2.toArray, ?_, .agg q _ e4⟩
    have : (p1 ++ (p2 ++ p3)).toArray.extract off (off + n) = p2.toArray := by
      rw [← e2, ← e3]; simp
    simp [part, run_isAgg hg, run_sizeOf hn]
    rw [← e2, ← e3]; simp
  · obtain ⟨p1, y, p3, e1, e2, e3, _⟩ := hrow.rget h3
    subst e1
    refine ⟨y, ?_, e3⟩
    have : (p1 ++ y :: p3)[off]? = some y := by rw [← e2]; simp
    simp [part, run_isAgg hg, this]

def fieldA (P : Program) (s : TypeId) (v : AV) (f : Nat) : Option AV :=
  match v with
  | .agg r => obind (P.underlying s) fun d => match d with
    | .struct fs => obind fs[f]? fun fd => partA P fd.type r fd.offset
    | _ => none
  | _ => none

theorem fieldA_ok (hr : HR env W ι h w) {s : TypeId} {f : Nat} {v u : AV} {x : Value} (hv : VR env ι v x) (hl : fieldA P s v f = some u) : Good P env W (Instr.field s x f) w ι u h := by
  cases hv <;> first | (cases hl; done) | skip
  rename_i r xs hrow
  obtain ⟨d, hd, h2⟩ := obind_eq hl
  cases d <;> first | (cases h2; done) | skip
  rename_i fs
  obtain ⟨fd, hfd, h3⟩ := obind_eq h2
  obtain ⟨y, hy, hvy⟩ := partA_ok hrow h3 w
  exact Good.same hr (x := y) (by simp [Instr.field, run_underlying hd, hfd, asAgg, hy]) hvy

end
end Go.Ab
