/- copy, len, min, max, maps. -/
import Derived.Test.YtdakmcoggmlglaaGreatAbOps3
set_option linter.all false
namespace Go.Ab
open Go.RowKit
noncomputable section

variable {P : Program} {env : Nat → Value} {W : Base} {w : World} {ι : Inj} {h h' : AHeap}

def copyA (P : Program) (dT : TypeId) (d x : AV) (h : AHeap) : Option (AV × AHeap) :=
  obind (P.underlying dT) fun dd => match dd with
  | .slice elem => obind (szOf P elem) fun size => obind (lenA x) fun m => obind (lenA d) fun k =>
      forceN (bif' (Nat.blt k m) k m) fun n => obind (cellsA size n x h) fun q => bif' (Nat.beq (rlen q) (Nat.mul n size))
        (match d with
        | .nils => some (.int .i64 (.ofNat n), h)
        | .slice b off _ _ => obind (writeA h b off q) fun h' => some (.int .i64 (.ofNat n), h')
        | .sliceu b off _ _ => obind (writeA h b off q) fun h' => some (.int .i64 (.ofNat n), h')
        | _ => none) none
  | _ => none

theorem copyA_ok (hr : HR env W ι h w) {dT sT ty : TypeId} {d x u : AV} {dv xv : Value} (hd : VR env ι d dv) (hx : VR env ι x xv) (ha : copyA P dT d x h = some (u, h')) :
    Good P env W (Builtin.copy_ #[dT, sT] ty #[dv, xv]) w ι u h' := by
  obtain ⟨dd, hdd, h1⟩ := obind_eq ha
  cases dd <;> first | (cases h1; done) | skip
  rename_i elem
  obtain ⟨size, hsz, h2⟩ := obind_eq h1
  obtain ⟨m, hm, h3⟩ := obind_eq h2
  obtain ⟨k, hk, h4⟩ := obind_eq h3
  rw [forceN_eq] at h4
  have hmin : bif' (Nat.blt k m) k m = Nat.min m k := by
    cases hb : Nat.blt k m
    · have := bltF hb; show m = min m k; omega
    · have := bltT hb; show k = min m k; omega
  rw [hmin] at h4
  obtain ⟨q, hq, h5⟩ := obind_eq h4
  rcases bif'_some h5 with ⟨g1, h6⟩ | ⟨_, h6⟩
  case inr => cases h6
  have hn0 : x = .nils → Nat.min m k = 0 := fun e => by subst e; cases hm; exact Nat.zero_min k
  obtain ⟨new, hnew, hrow, _, _⟩ := cellsA_ok (P := P) hr hx hq hn0
  have hlen := lenA_ok (P := P) hx hm w
  cases hd <;> first | (cases h6; done) | skip
  · cases h6
    cases hk
    refine Good.same hr (x := goInt (Nat.min m 0 : Nat)) ?_ (.int _ _)
    simp only [Builtin.copy_, List.getElem?_toArray, List.getElem?_cons_zero, List.getElem?_cons_succ, Sem.run_bind, run_underlying hdd, Result.andThen_ok, hlen, run_sizeOf hsz, hnew, Sem.run_pure]
  · rename_i b off len cap c s hc
    cases hk
    obtain ⟨h2', hw, h7⟩ := obind_eq h6
    cases h7
    obtain ⟨w', hst, hr'⟩ := writeA_ok (P := P) hr hrow hc hw
    refine ⟨ι, w', goInt (Nat.min m k : Nat), ?_, .refl ι, .int _ _, hr'⟩
    simp only [Builtin.copy_, List.getElem?_toArray, List.getElem?_cons_zero, List.getElem?_cons_succ, Sem.run_bind, run_underlying hdd, Result.andThen_ok, hlen, run_sizeOf hsz, hnew, Sem.run_pure, hst]
  · rename_i b off len es c s cap hc _ _
    cases hk
    obtain ⟨h2', hw, h7⟩ := obind_eq h6
    cases h7
    obtain ⟨w', hst, hr'⟩ := writeA_ok (P := P) hr hrow hc hw
    refine ⟨ι, w', goInt (Nat.min m k : Nat), ?_, .refl ι, .int _ _, hr'⟩
    simp only [Builtin.copy_, List.getElem?_toArray, List.getElem?_cons_zero, List.getElem?_cons_succ, Sem.run_bind, run_underlying hdd, Result.andThen_ok, hlen, run_sizeOf hsz, hnew, Sem.run_pure, hst]

/-- len -/
def builtinLenA (P : Program) (t : TypeId) (x : AV) (h : AHeap) : Option AV :=
  obind (P.underlying t) fun d => match d with
  | .string => match x with
    | .str n _ => some (.int .i64 (.ofNat n))
    | _ => none
  | .array n _ => some (.int .i64 (.ofNat n))
  | .slice _ => match x with
    | .nils => some (.int .i64 (.ofNat 0))
    | .slice _ _ len _ => some (.int .i64 (.ofNat len))
    | .sliceu _ _ len _ => some (.int .i64 (.ofNat len))
    | _ => none
  | .map _ _ => match x with
    | .nilm => some (.int .i64 (.ofNat 0))
    | .map b => obind (h.at b) fun o => match o with
      | .map es _ => some (mkI .i64 (.ofNat es.length))
      | _ => none
    | _ => none
  | _ => none

theorem EsR.length : ∀ {as : List AEnt} {es : List MapEntry}, EsR env ι as es → es.length = as.length
  | _, _, .nil => rfl
  | _, _, .cons a e as es _ h => by simp [EsR.length h]

theorem HR.map (hr : HR env W ι h w) {b c s : Nat} {as : List AEnt} {clock : Nat} (hb : h.at b = some (.map as clock)) (hc : ι b = some (c, s)) :
    ∃ es, w.heap[c]? = some (.map es clock) ∧ EsR env ι as es.toList := by
  obtain ⟨x, a2, a3⟩ := hr.obj b _ c s hb hc
  cases a3 with
  | map _ _ es _ e => exact ⟨es.toArray, a2, by simpa using e⟩

theorem run_getObj_map {w : World} {c clock : Nat} {es : Array MapEntry} (hw : w.heap[c]? = some (.map es clock)) : (getObj c).run P w = .ok (.map es clock) w := by
  simp [getObj, Sem.run, hw]

theorem builtinLenA_ok (hr : HR env W ι h w) {t ty : TypeId} {x u : AV} {xv : Value} (hx : VR env ι x xv) (ha : builtinLenA P t x h = some u) : Good P env W (Builtin.len_ #[t] ty #[xv]) w ι u h := by
  obtain ⟨d, hd, h1⟩ := obind_eq ha
  cases d <;> first | (cases h1; done) | skip
  · cases hx <;> first | (cases h1; done) | skip
    cases h1
    exact Good.same hr (x := goInt _) (by simp [Builtin.len_, run_underlying hd, digS_size]) (.int _ _)
  · cases hx <;> first | (cases h1; done) | skip
    · cases h1; exact Good.same hr (x := goInt (0 : Nat)) (by simp [Builtin.len_, run_underlying hd]) (.int _ _)
    · cases h1; exact Good.same hr (x := goInt _) (by simp [Builtin.len_, run_underlying hd]) (.int _ _)
    · cases h1; exact Good.same hr (x := goInt _) (by simp [Builtin.len_, run_underlying hd]) (.int _ _)
  · cases h1
    exact Good.same hr (x := goInt _) (by simp [Builtin.len_, run_underlying hd]) (.int _ _)
  · cases hx <;> first | (cases h1; done) | skip
    · cases h1; exact Good.same hr (x := goInt (0 : Nat)) (by simp [Builtin.len_, run_underlying hd]) (.int _ _)
    · rename_i b c s hc
      obtain ⟨o, ho, h2⟩ := obind_eq h1
      cases o with
      | map as clock =>
        cases h2
        obtain ⟨es, a2, a3⟩ := hr.map ho hc
        have a1 := hc
        rw [mkI_eq]
        have hl : es.size = as.length := by rw [← Array.length_toList]; exact a3.length
        exact Good.same hr (x := goInt (es.size : Nat)) (by simp [Builtin.len_, run_underlying hd, run_getObj_map a2]) (by rw [hl]; exact .int _ _)
      | _ => cases h2

/-- min, max of whole numbers -/
def minmax2 (mx : Bool) (x y : AV) : Option AV :=
  match x, y with
  | .int k a, .int _ b => some (.int k (bif' (bif' mx (ilt a b) (ilt b a)) b a))
  | _, _ => none

def minmaxA (mx : Bool) (l : List AV) : Option AV :=
  match l with
  | [] => none
  | x :: rest => List.rec (fun x => some x) (fun y _ ih x => obind (minmax2 mx x y) ih) rest x

theorem minA_ok {x y u : AV} {xv yv : Value} (hx : VR env ι x xv) (hy : VR env ι y yv) (ha : minmax2 false x y = some u) (w : World) : ∃ z, (Builtin.min2 xv yv).run P w = .ok z w ∧ VR env ι u z := by
  cases hx <;> first | (cases ha; done) | skip
  cases hy <;> first | (cases ha; done) | skip
  cases ha
  rename_i k a k' b
  refine ⟨.int k (if b < a then b else a), by simp [Builtin.min2], ?_⟩
  have : bif' (bif' false (ilt a b) (ilt b a)) b a = if b < a then b else a := by
    show bif' (ilt b a) b a = _
    rw [ilt_eq]; by_cases h : b < a <;> simp [h]
  rw [this]; exact .int _ _

theorem maxA_ok {x y u : AV} {xv yv : Value} (hx : VR env ι x xv) (hy : VR env ι y yv) (ha : minmax2 true x y = some u) (w : World) : ∃ z, (Builtin.max2 xv yv).run P w = .ok z w ∧ VR env ι u z := by
  cases hx <;> first | (cases ha; done) | skip
  cases hy <;> first | (cases ha; done) | skip
  cases ha
  rename_i k a k' b
  refine ⟨.int k (if a < b then b else a), by simp [Builtin.max2], ?_⟩
  have : bif' (bif' true (ilt a b) (ilt b a)) b a = if a < b then b else a := by
    show bif' (ilt a b) b a = _
    rw [ilt_eq]; by_cases h : a < b <;> simp [h]
  rw [this]; exact .int _ _

theorem min_ok {l : List AV} {xs : List Value} {u : AV} {a : Array TypeId} {ty : TypeId} (hl : LR env ι l xs) (ha : minmaxA false l = some u) (w : World) :
    ∃ z, (Builtin.min_ a ty xs.toArray).run P w = .ok z w ∧ VR env ι u z := by
  cases hl with
  | nil => cases ha
  | cons v x vs ys hv hr =>
    simp only [Builtin.min_]
    show ∃ z, (ys.foldlM Builtin.min2 x).run P w = .ok z w ∧ _
    have key : ∀ (vs : List AV) (ys : List Value) (v : AV) (x : Value), LR env ι vs ys → VR env ι v x → minmaxA false (v :: vs) = some u →
        ∃ z, (ys.foldlM Builtin.min2 x).run P w = .ok z w ∧ VR env ι u z := by
      intro vs
      induction vs with
      | nil => intro ys v x h1 h2 h3; cases h1; cases h3; exact ⟨x, rfl, h2⟩
      | cons v' vs ih =>
        intro ys v x h1 h2 h3
        cases h1 with
        | cons _ y _ ys g1 g2 =>
          obtain ⟨m, hm, h4⟩ := obind_eq (f := fun x => minmaxA false (x :: vs)) h3
          obtain ⟨z, hz, hvz⟩ := minA_ok (P := P) h2 g1 hm w
          obtain ⟨z', hz', hvz'⟩ := ih ys m z g2 hvz h4
          exact ⟨z', by simp [List.foldlM_cons, hz, hz'], hvz'⟩
    exact key vs ys v x hr hv ha

theorem max_ok {l : List AV} {xs : List Value} {u : AV} {a : Array TypeId} {ty : TypeId} (hl : LR env ι l xs) (ha : minmaxA true l = some u) (w : World) :
    ∃ z, (Builtin.max_ a ty xs.toArray).run P w = .ok z w ∧ VR env ι u z := by
  cases hl with
  | nil => cases ha
  | cons v x vs ys hv hr =>
    simp only [Builtin.max_]
    show ∃ z, (ys.foldlM Builtin.max2 x).run P w = .ok z w ∧ _
    have key : ∀ (vs : List AV) (ys : List Value) (v : AV) (x : Value), LR env ι vs ys → VR env ι v x → minmaxA true (v :: vs) = some u →
        ∃ z, (ys.foldlM Builtin.max2 x).run P w = .ok z w ∧ VR env ι u z := by
      intro vs
      induction vs with
      | nil => intro ys v x h1 h2 h3; cases h1; cases h3; exact ⟨x, rfl, h2⟩
      | cons v' vs ih =>
        intro ys v x h1 h2 h3
        cases h1 with
        | cons _ y _ ys g1 g2 =>
          obtain ⟨m, hm, h4⟩ := obind_eq (f := fun x => minmaxA true (x :: vs)) h3
          obtain ⟨z, hz, hvz⟩ := maxA_ok (P := P) h2 g1 hm w
          obtain ⟨z', hz', hvz'⟩ := ih ys m z g2 hvz h4
          exact ⟨z', by simp [List.foldlM_cons, hz, hz'], hvz'⟩
    exact key vs ys v x hr hv ha

end
end Go.Ab
