/- Making slices and aggregates, appending, copying. -/
import Derived.Test.YtdakmcoggmlglaaGreatAbOps
set_option linter.all false
namespace Go.Ab
open Go.RowKit
noncomputable section

variable {P : Program} {env : Nat → Value} {W : Base} {w : World} {ι : Inj} {h h' : AHeap}

/-- k times the cells of r -/
def rrep (r : Row) (k : Nat) : Row := Nat.rec [] (fun _ ih => rapp r ih) k

theorem rrep_ok {r : Row} {xs : List Value} (hr : RR env ι r xs) (k : Nat) : RR env ι (rrep r k) (List.replicate k xs).flatten := by
  induction k with
  | zero => exact .nil
  | succ k ih =>
    rw [List.replicate_succ, List.flatten_cons]
    exact hr.rapp ih

theorem flatten_get {α : Type} (xs : List α) (k : Nat) : ∀ i, i < k * xs.length → (List.replicate k xs).flatten[i]? = xs[i % xs.length]? := by
  induction k with
  | zero => intro i h; omega
  | succ k ih =>
    intro i hi
    rw [List.replicate_succ, List.flatten_cons]
    by_cases h : i < xs.length
    · rw [List.getElem?_append_left h, Nat.mod_eq_of_lt h]
    · rw [List.getElem?_append_right (by omega), ih _ (by rw [Nat.succ_mul] at hi; omega)]
      congr 1
      exact (Nat.mod_eq_sub_mod (by omega)).symm

theorem zeros_list (z : Array Value) (k n : Nat) (hn : n = k * z.size) : ((Array.range n).map (fun i => z[i % z.size]!)).toList = (List.replicate k z.toList).flatten := by
  subst hn
  apply List.ext_getElem?
  intro i
  simp only [Array.toList_map, Array.toList_range, List.getElem?_map]
  by_cases hi : i < k * z.size
  · rw [flatten_get z.toList k i (by simpa using hi), List.getElem?_range hi]
    have hz : 0 < z.size := by
      rcases Nat.eq_zero_or_pos z.size with h | h
      · rw [h] at hi; omega
      · exact h
    have : i % z.size < z.size := Nat.mod_lt _ hz
    simp [this]
  · rw [List.getElem?_eq_none (by simpa using hi), List.getElem?_eq_none]
    · rfl
    · simp; omega

/-- the cells of a type's zero value, k times -/
def zerosA (P : Program) (t : TypeId) (k : Nat) : Option Row := obind (zeroOf P t) fun v => obind (vrow v) fun r => some (rrep r k)

def bytesOf (P : Program) (t : TypeId) : Option Nat := omap (fun i => i.bytes) (P.info? t)

theorem bytesOf_ok {t : TypeId} {n : Nat} (hn : bytesOf P t = some n) (w : World) : ∃ i, (typeInfo t).run P w = .ok i w ∧ i.bytes = n := by
  obtain ⟨i, hi, rfl⟩ := omap_eq hn
  exact ⟨i, by simp [typeInfo, hi], rfl⟩

theorem vrow_size {v : AV} {r : Row} {x : Value} (hv : VR env ι v x) (hrow : vrow v = some r) : x.cells.size = rlen r := by
  rw [← Array.length_toList]; exact (hv.vrow hrow).length

def makeSliceA (P : Program) (t : TypeId) (l c : AV) (h : AHeap) : Option (AV × AHeap) :=
  obind (P.underlying t) fun d => match d with
  | .slice elem => obind (idxOf l) fun l => obind (idxOf c) fun c => obind (bytesOf P elem) fun by_ => obind (szOf P elem) fun s =>
    bif' (Nat.ble l c) (bif' (Nat.ble (Nat.mul by_ c) 1099511627776) (bif' (Nat.ble c 1099511627776)
      (obind (zeroOf P elem) fun v => obind (vrow v) fun r => bif' (Nat.beq (rlen r) s)
        (forceN h.next fun b => some (.slice b 0 l c, h.new (.cells (rrep r c) false true))) none) none) none) none
  | _ => none

theorem makeSliceA_ok (hr : HR env W ι h w) {t : TypeId} {l c u : AV} {x y : Value} (hx : VR env ι l x) (hy : VR env ι c y) (hm : makeSliceA P t l c h = some (u, h')) :
    Good P env W (Instr.makeSlice t x y) w ι u h' := by
  obtain ⟨d, hd, h1⟩ := obind_eq hm
  cases d <;> first | (cases h1; done) | skip
  rename_i elem
  obtain ⟨ln, hl, h2⟩ := obind_eq h1
  obtain ⟨cn, hc, h3⟩ := obind_eq h2
  obtain ⟨bn, hb, h4⟩ := obind_eq h3
  obtain ⟨s, hs, h5⟩ := obind_eq h4
  rcases bif'_some h5 with ⟨g1, h6⟩ | ⟨_, h6⟩
  case inr => cases h6
  rcases bif'_some h6 with ⟨g2, h7⟩ | ⟨_, h7⟩
  case inr => cases h7
  rcases bif'_some h7 with ⟨g3, h8⟩ | ⟨_, h8⟩
  case inr => cases h8
  obtain ⟨v, hv, h9⟩ := obind_eq h8
  obtain ⟨r, hrow, h10⟩ := obind_eq h9
  rcases bif'_some h10 with ⟨g4, h11⟩ | ⟨_, h11⟩
  case inr => cases h11
  rw [forceN_eq] at h11; cases h11
  obtain ⟨k1, rfl⟩ := idxOf_ok hx hl
  obtain ⟨k2, rfl⟩ := idxOf_ok hy hc
  obtain ⟨z, hz, hvz⟩ := run_zeroValue (env := env) hv w
  obtain ⟨i, hi, hib⟩ := bytesOf_ok hb w
  have e1 : ln ≤ cn := bleT g1
  have e2 : bn * cn ≤ 1099511627776 := bleT g2
  have e3 : cn ≤ 1099511627776 := bleT g3
  have e4 : rlen r = s := beqT g4
  have hzs : z.cells.size = s := by rw [vrow_size (hvz ι) hrow, e4]
  have w1 : IntKind.wrap .i64 (ln : Int) = ln := wrap_small .i64 ln (by show ln < 9223372036854775808; omega)
  have w2 : IntKind.wrap .i64 (cn : Int) = cn := wrap_small .i64 cn (by show cn < 9223372036854775808; omega)
  have t1 : ¬ ((cn : Int) < 0) := by omega
  have t2 : ¬ ((bn : Int) * (cn : Int) > 2 ^ 48) := by
    have : (bn : Int) * (cn : Int) = ((bn * cn : Nat) : Int) := by simp
    rw [this]; omega
  have t3 : ¬ ((ln : Int) < 0) := by omega
  have t4 : ¬ ((ln : Int) > (cn : Int)) := by omega
  let cells : Array Value := (Array.range (cn * s)).map (fun i => z.cells[i % z.cells.size]!)
  have hcells : cells.toList = (List.replicate cn z.cells.toList).flatten := zeros_list z.cells cn (cn * s) (by rw [hzs])
  have hcells0 : cn * s = 0 → cells = (Array.range (cn * s)).map (fun i => (#[] : Array Value)[i % 0]!) := by
    intro h0; show (Array.range (cn * s)).map _ = _; rw [h0]; simp
  refine ⟨ι.add h.next (w.heap.size, cells.size), { w with heap := w.heap.push (.cells cells elem) }, .slice (some ⟨w.heap.size, 0, none⟩) ln cn, ?_, hr.ext_new _, ?_, ?_⟩
  · simp only [Instr.makeSlice, Sem.run_bind, run_underlying hd, Result.andThen_ok, asInt, asIntOf, Sem.run_pure, hi, hib, w1, w2]
    simp only [t1, t2, t3, t4, decide_false, Bool.or_false, Bool.false_eq_true, if_false, run_askRoom, Result.andThen_ok, run_sizeOf hs, Sem.run_bind, Int.toNat_natCast]
    by_cases h0 : cn * s = 0
    · simp only [h0, if_true, Sem.run_pure, Result.andThen_ok, newRow, Sem.run_bind, run_newObj]
      congr 1
      · have := hcells0 h0; rw [h0] at this; rw [this]; rfl
    · simp only [h0, if_false, Sem.run_bind, hz, Result.andThen_ok, Sem.run_pure, newRow, run_newObj]
      rfl
  · exact .slice _ _ _ _ _ cells.size (by simp [Inj.add])
  · refine hr.new (.cells _ false true cells elem (0, 0) cells.toList [] (by simp) ?_ (fun _ => rfl) (.inl rfl))
    rw [hcells]
    exact rrep_ok (((hvz ι).vrow hrow).mono (hr.ext_new _)) cn

/-- parts laid into cells -/
def fillA (place : Nat → Option (Nat × Nat)) (parts : List (Nat × AV)) : Row → Option Row :=
  List.rec (fun r => some r) (fun p _ ih r => obind (place p.1) fun q => obind (vrow p.2) fun c => bif' (Nat.beq (rlen c) q.2) (obind (rset r q.1 c) ih) none) parts

inductive PR (env : Nat → Value) (ι : Inj) : List (Nat × AV) → List (Nat × Value) → Prop where
  | nil : PR env ι [] []
  | cons (i : Nat) (v : AV) (x : Value) (ps : List (Nat × AV)) (qs : List (Nat × Value)) : VR env ι v x → PR env ι ps qs → PR env ι ((i, v) :: ps) ((i, x) :: qs)

theorem fillA_ok {place : Nat → Option (Nat × Nat)} : ∀ {ps : List (Nat × AV)} {qs : List (Nat × Value)} {r r' : Row} {cells : Array Value}, PR env ι ps qs → RR env ι r cells.toList →
    fillA place ps r = some r' → ∃ cs, Instr.fill place cells qs = some cs ∧ cs.size = cells.size ∧ RR env ι r' cs.toList
  | _, _, r, r', cells, .nil, hrow, hf => by cases hf; exact ⟨cells, rfl, rfl, hrow⟩
  | _, _, r, r', cells, .cons i v x ps qs hv hp, hrow, hf => by
    obtain ⟨q, hq, h1⟩ := obind_eq hf
    obtain ⟨c, hc, h2⟩ := obind_eq h1
    rcases bif'_some h2 with ⟨hb, h3⟩ | ⟨_, h3⟩
    case inr => cases h3
    obtain ⟨r1, hr1, h4⟩ := obind_eq h3
    obtain ⟨a, b, d, e1, e2, e3, e4⟩ := hrow.rset (hv.vrow hc) hr1
    have hsz : x.cells.size = q.2 := by rw [vrow_size hv hc]; exact beqT hb
    obtain ⟨g1, g2⟩ := Great.foldl_set q.1 x.cells.toList 0 cells
    have hcl : cells.toList.length = cells.size := by simp
    have hlen : q.1 + x.cells.size ≤ cells.size := by
      rw [← hcl, e1]; simp at e3; simp; omega
    let cs' : Array Value := x.cells.zipIdx.foldl (fun cs (c, j) => cs.setIfInBounds (q.1 + j) c) cells
    have hcs : cs' = (x.cells.toList.zipIdx 0).foldl (fun cs (x : Value × Nat) => cs.setIfInBounds (q.1 + x.2) x.1) cells := by
      show x.cells.zipIdx.foldl _ cells = _
      rw [← Array.foldl_toList]; simp
    have hl : cs'.toList = a ++ (x.cells.toList ++ d) := by
      apply List.ext_getElem?
      intro k
      rw [Array.getElem?_toList, hcs, g2 k]
      have hck : cells[k]? = (a ++ (b ++ d))[k]? := by rw [← e1]; simp
      have e3' : b.length = x.cells.size := by rw [e3]; simp
      by_cases k1 : k < q.1
      · rw [if_neg (by omega), hck, List.getElem?_append_left (by omega), List.getElem?_append_left (by omega)]
      · by_cases k2 : k < q.1 + x.cells.size
        · rw [if_pos (by simp; omega), List.getElem?_append_right (by omega), e2, List.getElem?_append_left (by simp; omega), Nat.add_zero]
        · rw [if_neg (by simp; omega), hck, List.getElem?_append_right (by omega), List.getElem?_append_right (by omega), List.getElem?_append_right (by omega), List.getElem?_append_right (by simp; omega)]
          simp [e2, e3']
    rw [← hl] at e4
    obtain ⟨cs, f1, f2, f3⟩ := fillA_ok hp e4 h4
    refine ⟨cs, ?_, ?_, f3⟩
    · have hq' : place i = some (q.1, q.2) := hq
      simp only [Instr.fill, hq']
      rw [if_neg (by simp [hsz]; omega)]
      exact f1
    · rw [f2, hcs, g1]

def placesOf (P : Program) (fs : List Field) : Option (List (Nat × Nat)) :=
  List.rec (some []) (fun f _ ih => obind (szOf P f.type) fun s => obind ih fun l => some ((f.offset, s) :: l)) fs

theorem placesOf_ok : ∀ {fs : List Field} {l : List (Nat × Nat)}, placesOf P fs = some l → ∀ w, (fs.mapM fun f => (do pure (f.offset, ← sizeOf f.type) : Sem (Nat × Nat))).run P w = .ok l w
  | [], l, hl, w => by cases hl; simp
  | f :: fs, l, hl, w => by
    obtain ⟨s, hs, h1⟩ := obind_eq hl
    obtain ⟨l', hl', h2⟩ := obind_eq h1
    cases h2
    have ih := placesOf_ok hl' w
    simp only [List.mapM_cons, Sem.run_bind, Sem.run_pure, run_sizeOf hs, Result.andThen_ok, ih]

def buildA (P : Program) (t : TypeId) (parts : List (Nat × AV)) : Option AV :=
  obind (zeroOf P t) fun z => obind (vrow z) fun r => obind (P.underlying t) fun d => match d with
  | .struct fs => obind (placesOf P fs.toList) fun l => obind (fillA (fun i => l[i]?) parts r) fun r' => some (.agg r')
  | .array _ elem => obind (szOf P elem) fun s => obind (fillA (fun i => some (Nat.mul i s, s)) parts r) fun r' => some (.agg r')
  | _ => none

theorem buildA_ok (hr : HR env W ι h w) {t : TypeId} {u : AV} {ps : List (Nat × AV)} {qs : List (Nat × Value)} (hp : PR env ι ps qs) (hb : buildA P t ps = some u) :
    Good P env W (Instr.build t qs.toArray) w ι u h := by
  obtain ⟨z, hz, h1⟩ := obind_eq hb
  obtain ⟨r, hrow, h2⟩ := obind_eq h1
  obtain ⟨d, hd, h3⟩ := obind_eq h2
  obtain ⟨x, hx, hvx⟩ := run_zeroValue (env := env) hz w
  have hxr := (hvx ι).vrow hrow
  cases d <;> first | (cases h3; done) | skip
  · rename_i len elem
    obtain ⟨s, hs, h4⟩ := obind_eq h3
    obtain ⟨r', hr', h5⟩ := obind_eq h4
    cases h5
    obtain ⟨cs, f1, _, f3⟩ := fillA_ok hp hxr hr'
    refine Good.same hr (x := .agg cs) ?_ (by have := VR.agg _ _ f3; simpa using this)
    have f1' : Instr.fill (fun i => some (i * s, s)) x.cells qs = some cs := f1
    simp [Instr.build, hx, run_underlying hd, run_sizeOf hs, f1']
  · rename_i fs
    obtain ⟨l, hl, h4⟩ := obind_eq h3
    obtain ⟨r', hr', h5⟩ := obind_eq h4
    cases h5
    obtain ⟨cs, f1, _, f3⟩ := fillA_ok hp hxr hr'
    refine Good.same hr (x := .agg cs) ?_ (by have := VR.agg _ _ f3; simpa using this)
    have hpl := placesOf_ok hl w
    have f1' : Instr.fill (fun i => l.toArray[i]?) x.cells qs = some cs := by simpa using f1
    have hm : (fs.mapM fun f => (do pure (f.offset, ← sizeOf f.type) : Sem (Nat × Nat))).run P w = .ok l.toArray w := by
      rw [← Array.toArray_toList (xs := fs), List.mapM_toArray]
      simp only [Sem.run_map, hpl, Result.andThen_ok]
    simp only [Instr.build, Sem.run_bind, hx, Result.andThen_ok, run_underlying hd, hm, f1', Sem.run_pure]

def buildSliceA (P : Program) (t : TypeId) (len : Nat) (parts : List (Nat × AV)) (h : AHeap) : Option (AV × AHeap) :=
  obind (P.underlying t) fun d => match d with
  | .slice elem => obind (szOf P elem) fun s => bif' (Nat.ble (Nat.mul len s) 16777216)
    (obind (zeroOf P elem) fun z => obind (vrow z) fun r => bif' (Nat.beq (rlen r) s)
      (obind (fillA (fun i => some (Nat.mul i s, s)) parts (rrep r len)) fun r' => forceN h.next fun b => some (.slice b 0 len len, h.new (.cells r' false true))) none) none
  | _ => none

theorem buildSliceA_ok (hr : HR env W ι h w) {t : TypeId} {len : Nat} {u : AV} {ps : List (Nat × AV)} {qs : List (Nat × Value)} (hp : PR env ι ps qs) (hb : buildSliceA P t len ps h = some (u, h')) :
    Good P env W (Instr.buildSlice t len qs.toArray) w ι u h' := by
  obtain ⟨d, hd, h3⟩ := obind_eq hb
  cases d <;> first | (cases h3; done) | skip
  rename_i elem
  obtain ⟨s, hs, h4⟩ := obind_eq h3
  rcases bif'_some h4 with ⟨g1, h5⟩ | ⟨_, h5⟩
  case inr => cases h5
  obtain ⟨z, hz, h6⟩ := obind_eq h5
  obtain ⟨r, hrow, h7⟩ := obind_eq h6
  rcases bif'_some h7 with ⟨g2, h8⟩ | ⟨_, h8⟩
  case inr => cases h8
  obtain ⟨r', hr', h9⟩ := obind_eq h8
  rw [forceN_eq] at h9; cases h9
  obtain ⟨x, hx, hvx⟩ := run_zeroValue (env := env) hz w
  have hxr := (hvx ι).vrow hrow
  have hxs : x.cells.size = s := by rw [vrow_size (hvx ι) hrow]; exact beqT g2
  let cells : Array Value := (Array.range (len * s)).map (fun i => x.cells[i % x.cells.size]!)
  have hcells : cells.toList = (List.replicate len x.cells.toList).flatten := zeros_list x.cells len (len * s) (by rw [hxs])
  have hrr : RR env ι (rrep r len) cells.toList := by rw [hcells]; exact rrep_ok hxr len
  obtain ⟨cs, f1, f2, f3⟩ := fillA_ok hp hrr hr'
  have f1' : Instr.fill (fun i => some (i * s, s)) cells qs = some cs := f1
  have hle : ¬ len * s > 2 ^ 24 := by have g := bleT g1; have g' : len * s ≤ 16777216 := g; omega
  refine ⟨ι.add h.next (w.heap.size, cs.size), { w with heap := w.heap.push (.cells cs elem) }, .slice (some ⟨w.heap.size, 0, none⟩) len len, ?_, hr.ext_new _, ?_, ?_⟩
  · simp only [Instr.buildSlice, Sem.run_bind, run_underlying hd, Result.andThen_ok, run_sizeOf hs, hle, if_false]
    by_cases h0 : len * s = 0
    · have hc0 : cells = #[] := by show (Array.range (len * s)).map _ = _; rw [h0]; simp
      rw [hc0] at f1'
      simp only [h0, if_true, Sem.run_pure, Result.andThen_ok, Sem.run_bind]
      have : ((Array.range 0).map fun x => (#[] : Array Value)[x % (#[] : Array Value).size]!) = #[] := by simp
      rw [this, f1']
      simp [newRow]
    · simp only [h0, if_false, Sem.run_bind, hx, Result.andThen_ok, Sem.run_pure]
      have : (Array.range (len * s)).map (fun i => x.cells[i % x.cells.size]!) = cells := rfl
      rw [this, f1']
      simp [newRow]
  · exact .slice _ _ _ _ _ cs.size (by simp [Inj.add])
  · exact hr.new (.cells _ false true cs elem (0, 0) cs.toList [] (by simp) (f3.mono (hr.ext_new _)) (fun _ => rfl) (.inl rfl))

end
end Go.Ab
