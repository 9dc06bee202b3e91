/- append, copy, len. -/
import Derived.Test.YtdakmcoggmlglaaGreatAbOps2
set_option linter.all false
namespace Go.Ab
open Go.RowKit
noncomputable section

variable {P : Program} {env : Nat → Value} {W : Base} {w : World} {ι : Inj} {h h' : AHeap}

/-- how long a slice or a string is, and its cells -/
def lenA : AV → Option Nat
  | .nils => some 0
  | .slice _ _ len _ => some len
  | .sliceu _ _ len _ => some len
  | .str n _ => some n
  | _ => none

theorem lenA_ok {v : AV} {n : Nat} {x : Value} (hv : VR env ι v x) (hn : lenA v = some n) (w : World) : (Builtin.lenOf x).run P w = .ok n w := by
  cases hv <;> first | (cases hn; done) | skip
  · cases hn; simp [Builtin.lenOf, digS_size]
  · cases hn; simp [Builtin.lenOf]
  · cases hn; simp [Builtin.lenOf]
  · cases hn; simp [Builtin.lenOf]

def cellsA (s n : Nat) (v : AV) (h : AHeap) : Option Row :=
  match v with
  | .nils => some []
  | .slice b off _ _ => obind (h.at b) fun o => match o with
    | .cells r _ _ => rsub r off (Nat.mul n s)
    | _ => none
  | .sliceu b off _ _ => obind (h.at b) fun o => match o with
    | .cells r _ _ => rsub r off (Nat.mul n s)
    | _ => none
  | .str m N => bif' (Nat.ble n m) (bif' (Nat.beq n 0) (some []) (some [.bytes n (Nat.mod N (Nat.pow 256 n))])) none
  | _ => none

theorem digV_digS (n N : Nat) : ((digS n N).data.map fun b => Value.int .u8 (b.toNat : Int)).toList = digV n N := by
  simp only [digS, digV, List.map_toArray, List.map_map]
  apply List.map_congr_left
  intro d hd
  have : d < 256 := dig_lt n N d hd
  simp [Nat.mod_eq_of_lt this]

theorem row_cells (hr : HR env W ι h w) {b off c sz k : Nat} {r q : Row} {opn plain : Bool} (ho : h.at b = some (.cells r opn plain)) (hc : ι b = some (c, sz)) (hs : rsub r off k = some q) :
    ∃ xs : List Value, (loadCells ⟨c, off, none⟩ k).run P w = .ok xs.toArray w ∧ RR env ι q xs ∧ xs.length = k := by
  obtain ⟨cs, e, fz, xs, tail, rfl, a2, a3, a4, _, _⟩ := hr.cells ho hc
  have a1 := hc
  obtain ⟨p1, p2, p3, e1, e2, e3, e4⟩ := a4.rsub hs
  subst e1
  have hld := run_loadCells_here P (w := w) (c := c) (off := off) a2 (a := p1) (b := p2) (d := p3 ++ tail) (by rw [a3]; simp [List.append_assoc]) e2
  rw [e3] at hld
  exact ⟨p2, hld, e4, e3⟩

theorem cellsA_ok (hr : HR env W ι h w) {s n : Nat} {v : AV} {x : Value} {q : Row} (hv : VR env ι v x) (hq : cellsA s n v h = some q) (hn : v = .nils → n = 0) :
    ∃ xs : List Value, (Builtin.firstCells s n x).run P w = .ok xs.toArray w ∧ RR env ι q xs ∧ ((∀ m N, v ≠ .str m N) → xs.length = n * s) ∧ (∀ m N, v = .str m N → xs.length = n) := by
  cases hv <;> first | (cases hq; done) | skip
  · rename_i m N
    rcases bif'_some hq with ⟨hb, h1⟩ | ⟨_, h1⟩
    case inr => cases h1
    have hle : n ≤ m := bleT hb
    have hdat : ((digS m N).extract 0 n).data.map (fun b => Value.int .u8 (b.toNat : Int)) = (digV n (N % 256 ^ n)).toArray := by
      rw [digS_extract (Nat.zero_le n) hle]
      apply Array.ext'
      have := digV_digS n (N / 256 ^ 0)
      simp only [Nat.sub_zero] at *
      rw [this]
      simp [digV, dig_mod]
    refine ⟨digV n (N % 256 ^ n), by simp only [Builtin.firstCells, Sem.run_pure, hdat], ?_, fun h => absurd rfl (h m N), fun _ _ _ => by simp [digV]⟩
    rcases bif'_some h1 with ⟨h0, h2⟩ | ⟨_, h2⟩
    · cases h2; have : n = 0 := beqT h0; subst this; exact .nil
    · cases h2
      have := RR.bytes (env := env) (ι := ι) n (N % 256 ^ n) [] [] .nil
      rwa [List.append_nil] at this
  · cases hq
    have : n = 0 := hn rfl
    subst this
    exact ⟨[], by simp [Builtin.firstCells], .nil, fun _ => by simp, fun _ _ h => by cases h⟩
  · rename_i b off len cap c sz hc
    obtain ⟨o, ho, h1⟩ := obind_eq hq
    cases o with
    | cells r opn plain =>
      obtain ⟨xs, e1, e2, e3⟩ := row_cells (P := P) hr ho hc h1
      exact ⟨xs, by simpa [Builtin.firstCells] using e1, e2, fun _ => e3, fun _ _ h => by cases h⟩
    | _ => cases h1
  · rename_i b off len es c sz cap hc _ _
    obtain ⟨o, ho, h1⟩ := obind_eq hq
    cases o with
    | cells r opn plain =>
      obtain ⟨xs, e1, e2, e3⟩ := row_cells (P := P) hr ho hc h1
      exact ⟨xs, by simpa [Builtin.firstCells] using e1, e2, fun _ => e3, fun _ _ h => by cases h⟩
    | _ => cases h1

/-- is it no whole number? (append of a make) -/
def notInt : TypeDesc → Bool
  | .int _ => false
  | _ => true

def bigOk (need bytes : Nat) : Bool := bif' (Nat.ble need 1099511627776) (Nat.ble (Nat.mul (Nat.add (Nat.mul 2 need) 1000) bytes) 281474976710656) false

theorem bigOk_ok {need bytes : Nat} (h : bigOk need bytes = true) : need ≤ 1099511627776 ∧ (2 * need + 1000) * bytes ≤ 281474976710656 := by
  unfold bigOk at h
  cases hb : Nat.ble need 1099511627776 with
  | false => rw [hb] at h; cases h
  | true => rw [hb] at h; exact ⟨bleT hb, bleT h⟩

theorem growBy_le (newLen : Nat) : ∀ (rounds c : Nat), Builtin.growBy newLen rounds c ≤ max c (newLen + (newLen + 768) / 4)
  | 0, c => by simp [Builtin.growBy]; omega
  | rounds + 1, c => by
    simp only [Builtin.growBy]
    split
    · omega
    · have := growBy_le newLen rounds (c + (c + 768) / 4)
      omega

theorem nextslicecap_le {need cap : Nat} (hc : cap ≤ need) : Builtin.nextslicecap need cap ≤ 2 * need + 1000 := by
  unfold Builtin.nextslicecap
  split
  · omega
  · split
    · omega
    · have := growBy_le need 4 cap
      omega

/-- the tail of append: more room is wanted -/
theorem grow_run {sT xT : TypeId} {elem size bytes need sLen sCap n : Nat} {base : Option Addr} {x s : Value} {old new : List Value} {z : AV} {zr : Row} {ty : TypeId}
    (hsT : P.underlying sT = some (.slice elem)) (hxT : ∃ d, P.underlying xT = some d ∧ notInt d = true) (hs : szOf P elem = some size) (hb : bytesOf P elem = some bytes)
    (hz : zeroOf P elem = some z) (hzr : vrow z = some zr) (hzs : rlen zr = size)
    (hse : s = .slice base sLen sCap) (hlen : (Builtin.lenOf x).run P w = .ok n w) (hnew : (Builtin.firstCells size n x).run P { w with drawn := w.drawn + 1 } = .ok new.toArray { w with drawn := w.drawn + 1 })
    (hold : (Builtin.firstCells size sLen s).run P { w with drawn := w.drawn + 1 } = .ok old.toArray { w with drawn := w.drawn + 1 }) (hneed : need = sLen + n) (hgt : sCap < need) (hbig : bigOk need bytes = true) :
    ∃ (newCap : Nat) (zs : List Value) (tail : List Value), need ≤ newCap ∧ (∀ env ι, RR env ι zr zs) ∧ tail.length = (newCap - need) * size ∧
      (Builtin.append_ #[sT, xT] ty #[s, x]).run P w = .ok (.slice (some ⟨w.heap.size, 0, none⟩) need newCap)
        { w with heap := w.heap.push (.cells (old ++ new ++ tail).toArray elem), drawn := w.drawn + 1 } := by
  obtain ⟨d, hd, hni⟩ := hxT
  obtain ⟨zv, hzv, hvz⟩ := run_zeroValue (env := fun _ => undef) hz w
  obtain ⟨i, hi, hib⟩ := bytesOf_ok hb w
  obtain ⟨hbn, hbig'⟩ := bigOk_ok hbig
  have hnx : ¬ Builtin.nextslicecap need sCap * bytes > 2 ^ 48 := by
    have h1 := nextslicecap_le (need := need) (cap := sCap) (by omega)
    have h2 : Builtin.nextslicecap need sCap * bytes ≤ (2 * need + 1000) * bytes := Nat.mul_le_mul_right _ h1
    omega
  let nc := Question.cut (.appendCap need sCap elem) (w.tape w.drawn (.appendCap need sCap elem))
  have hnc : need ≤ nc := by show need ≤ need + _; omega
  refine ⟨nc, zv.cells.toList, (Builtin.zeroCells zv.cells (nc - need)).toList, hnc, fun env ι => ?_, ?_, ?_⟩
  · obtain ⟨zv', hzv', hvz'⟩ := run_zeroValue (env := env) hz w
    have : zv' = zv := by rw [hzv] at hzv'; cases hzv'; rfl
    subst this
    exact (hvz' ι).vrow hzr
  · have : zv.cells.size = size := by rw [vrow_size (hvz (fun _ => none)) hzr, hzs]
    simp [Builtin.zeroCells, this]
  · subst hse
    have hdr : (zeroValue elem).run P { w with drawn := w.drawn + 1 } = .ok zv { w with drawn := w.drawn + 1 } := by
      obtain ⟨a1, a2, a3⟩ := obind_eq hz
      obtain ⟨b1, b2, b3⟩ := obind_eq a3
      simp [zeroValue, typeInfo, a2, b2] at hzv ⊢
      exact hzv
    have hforced : (Question.appendCap need sCap elem).forced = false := rfl
    have hcap : ¬ sLen + n ≤ sCap := by omega
    have hmax : ¬ ((need : Int) > IntKind.i64.max) := by show ¬ (need : Int) > 2 ^ (64 - 1) - 1; omega
    have hmax' : ∀ p : Prop, ¬ (((sLen + n : Nat) : Int) > IntKind.i64.max ∧ p) := fun p hp => hmax (by rw [hneed]; exact hp.1)
    subst hneed
    have hi' : (typeInfo elem).run P { w with drawn := w.drawn + 1 } = .ok i { w with drawn := w.drawn + 1 } := by
      obtain ⟨j, hj, _⟩ := omap_eq hb
      simp [typeInfo, hj] at hi ⊢
      exact hi
    cases d <;> first | (cases hni; done) | skip
    all_goals
      simp only [Builtin.append_, List.getElem?_toArray, List.getElem?_cons_zero, List.getElem?_cons_succ, Sem.run_bind, run_underlying hsT, Result.andThen_ok, run_sizeOf hs, run_underlying hd,
        Sem.run_pure, Bool.false_eq_true, if_false, hlen, hcap, hi, hib, hmax', hnx, Bool.not_false, if_true, false_or]
      simp only [run_choose, hforced, Bool.false_eq_true, if_false, Result.andThen_ok, hi', run_askRoom, hold, hnew, hdr, newRow, run_newObj, Sem.run_pure, Sem.run_bind]
      congr 3
      simp
      rfl

/-- append, with room: n cells more, in place -/
theorem append_place {sT xT : TypeId} {elem size sLen sCap n c off : Nat} {x : Value} {new : List Value} {ty : TypeId} {w' : World}
    (hsT : P.underlying sT = some (.slice elem)) (hxT : ∃ d, P.underlying xT = some d ∧ notInt d = true) (hs : szOf P elem = some size)
    (hlen : (Builtin.lenOf x).run P w = .ok n w) (hnew : (Builtin.firstCells size n x).run P w = .ok new.toArray w) (hcap : sLen + n ≤ sCap)
    (hst : (storeCells ⟨c, off + sLen * size, none⟩ new).run P w = .ok () w') :
    (Builtin.append_ #[sT, xT] ty #[.slice (some ⟨c, off, none⟩) sLen sCap, x]).run P w = .ok (.slice (some ⟨c, off, none⟩) (sLen + n) sCap) w' := by
  obtain ⟨d, hd, hni⟩ := hxT
  cases d <;> first | (cases hni; done) | skip
  all_goals
    simp only [Builtin.append_, List.getElem?_toArray, List.getElem?_cons_zero, List.getElem?_cons_succ, Sem.run_bind, run_underlying hsT, Result.andThen_ok, run_sizeOf hs, run_underlying hd,
      Sem.run_pure, Bool.false_eq_true, if_false, hlen, hcap, Bool.not_false, if_true, hnew, add_none, hst]

def appendA (P : Program) (sT xT : TypeId) (s x : AV) (h : AHeap) : Option (AV × AHeap) :=
  obind (P.underlying sT) fun d => match d with
  | .slice elem => obind (P.underlying xT) fun dx => bif' (notInt dx) (obind (szOf P elem) fun size => obind (bytesOf P elem) fun bytes =>
      obind (lenA x) fun n => obind (cellsA size n x h) fun q => bif' (Nat.beq (rlen q) (Nat.mul n size))
        (obind (zeroOf P elem) fun z => obind (vrow z) fun zr => bif' (Nat.beq (rlen zr) size)
          (match s with
          | .nils => bif' (Nat.beq n 0) (some (.nils, h)) (bif' (bigOk n bytes)
              (forceN h.next fun b => some (.sliceu b 0 n size, h.new (.cells q true true))) none)
          | .slice b off len cap => bif' (Nat.ble (Nat.add len n) cap)
              (obind (writeA h b (Nat.add off (Nat.mul len size)) q) fun h' => forceN (Nat.add len n) fun m => some (.slice b off m cap, h'))
              (bif' (bigOk (Nat.add len n) bytes) (obind (cellsA size len s h) fun p => forceN h.next fun b => forceN (Nat.add len n) fun m => some (.sliceu b 0 m size, h.new (.cells (rapp p q) true true))) none)
          | .sliceu b off len es => bif' (Nat.beq n 0) (some (.sliceu b off len es, h)) (bif' (Nat.beq off 0) (bif' (Nat.beq es size) (bif' (bigOk (Nat.add len n) bytes)
              (obind (h.at b) fun o => match o with
                | .cells r _ _ => bif' (Nat.beq (rlen r) (Nat.mul len size))
                    (forceN h.next fun b' => forceN (Nat.add len n) fun m => some (.sliceu b' 0 m size, (h.put b none).new (.cells (rapp r q) true false))) none
                | _ => none) none) none) none)
          | _ => none) none) none) none
  | _ => none

theorem drew_eq (w : World) (n : Nat) : ({ w with drawn := n } : World).heap = w.heap := rfl

theorem HR.undrew {n : Nat} (hr : HR env W ι h { w with drawn := n }) : HR env W ι h w :=
  ⟨⟨hr.old.os, hr.old.tape, hr.old.output, hr.old.size, hr.old.block⟩, hr.fresh, hr.rng, hr.inj, hr.obj, hr.ph⟩

theorem append_nil0 {sT xT : TypeId} {elem size : Nat} {x : Value} {ty : TypeId}
    (hsT : P.underlying sT = some (.slice elem)) (hxT : ∃ d, P.underlying xT = some d ∧ notInt d = true) (hs : szOf P elem = some size)
    (hlen : (Builtin.lenOf x).run P w = .ok 0 w) {new : List Value} (hnew : (Builtin.firstCells size 0 x).run P w = .ok new.toArray w) :
    (Builtin.append_ #[sT, xT] ty #[.slice none 0 0, x]).run P w = .ok (.slice none 0 0) w := by
  obtain ⟨d, hd, hni⟩ := hxT
  cases d <;> first | (cases hni; done) | skip
  all_goals
    simp only [Builtin.append_, List.getElem?_toArray, List.getElem?_cons_zero, List.getElem?_cons_succ, Sem.run_bind, run_underlying hsT, Result.andThen_ok, run_sizeOf hs, run_underlying hd,
      Sem.run_pure, Bool.false_eq_true, if_false, hlen, Nat.le_refl, Bool.not_false, if_true, hnew, Nat.add_zero]

/-- a block that append has made -/
theorem grown_ok (hr : HR env W ι h w) {elem : TypeId} {r : Row} {xs tail : List Value} {cap need size : Nat} (hrow : RR env ι r xs) (hx : xs.length = need * size) (ht : tail.length = (cap - need) * size) (hn : need ≤ cap) :
    ∃ ι', Ext ι ι' ∧ VR env ι' (.sliceu h.next 0 need size) (.slice (some ⟨w.heap.size, 0, none⟩) need cap) ∧
      HR env W ι' (h.new (.cells r true true)) { w with heap := w.heap.push (.cells (xs ++ tail).toArray elem) } := by
  refine ⟨ι.add h.next (w.heap.size, (xs ++ tail).toArray.size), hr.ext_new _, ?_, ?_⟩
  · refine .sliceu _ _ _ _ _ (xs ++ tail).toArray.size cap (by simp [Inj.add]) hn ?_
    have : (xs ++ tail).toArray.size = need * size + (cap - need) * size := by simp [hx, ht]
    rw [this, ← Nat.add_mul, show need + (cap - need) = cap from by omega, Nat.zero_add]
  · exact hr.new (.cells r true true (xs ++ tail).toArray elem (0, 0) xs tail (by simp) (hrow.mono (hr.ext_new _)) (fun h => by cases h) (.inl rfl))

theorem appendA_ok (hr : HR env W ι h w) {sT xT ty : TypeId} {s x u : AV} {sv xv : Value} (hs : VR env ι s sv) (hx : VR env ι x xv) (ha : appendA P sT xT s x h = some (u, h')) :
    Good P env W (Builtin.append_ #[sT, xT] ty #[sv, xv]) w ι u h' := by
  obtain ⟨d, hd, h1⟩ := obind_eq ha
  cases d <;> first | (cases h1; done) | skip
  rename_i elem
  obtain ⟨dx, hdx, h2⟩ := obind_eq h1
  rcases bif'_some h2 with ⟨hni, h3⟩ | ⟨_, h3⟩
  case inr => cases h3
  obtain ⟨size, hsz, h4⟩ := obind_eq h3
  obtain ⟨bytes, hby, h5⟩ := obind_eq h4
  obtain ⟨n, hn, h6⟩ := obind_eq h5
  obtain ⟨q, hq, h7⟩ := obind_eq h6
  rcases bif'_some h7 with ⟨g1, h8⟩ | ⟨_, h8⟩
  case inr => cases h8
  obtain ⟨z, hz, h9⟩ := obind_eq h8
  obtain ⟨zr, hzr, h10⟩ := obind_eq h9
  rcases bif'_some h10 with ⟨g2, h11⟩ | ⟨_, h11⟩
  case inr => cases h11
  clear h1 h2 h3 h4 h5 h6 h7 h8 h9 h10 ha
  have hnil : x = .nils → n = 0 := fun e => by subst e; cases hn; rfl
  have hlen := lenA_ok (P := P) hx hn w
  have hxT : ∃ d, P.underlying xT = some d ∧ notInt d = true := ⟨dx, hdx, hni⟩
  obtain ⟨new, hnew, hrow, _, _⟩ := cellsA_ok (P := P) hr hx hq hnil
  obtain ⟨new1, hnew1, hrow1, _, _⟩ := cellsA_ok (P := P) (hr.drew (w.drawn + 1)) hx hq hnil
  have hql : rlen q = n * size := beqT g1
  have hnl : new.length = n * size := by rw [hrow.length, hql]
  have hnl1 : new1.length = n * size := by rw [hrow1.length, hql]
  have hr1 := hr.drew (w.drawn + 1)
  cases hs <;> first | (cases h11; done) | skip
  · -- nil
    rcases bif'_some h11 with ⟨g3, h12⟩ | ⟨g3, h12⟩
    · have : n = 0 := beqT g3
      subst this
      cases h12
      exact Good.same hr (append_nil0 hd hxT hsz hlen hnew) .nils
    · rcases bif'_some h12 with ⟨g4, h13⟩ | ⟨_, h13⟩
      case inr => cases h13
      rw [forceN_eq] at h13; cases h13
      have hn0 : n ≠ 0 := beqF g3
      obtain ⟨cap, zs, tail, e1, e2, e3, e4⟩ := grow_run (ty := ty) (old := []) (base := none) (sLen := 0) (sCap := 0) (need := n) hd hxT hsz hby hz hzr (beqT g2) rfl hlen hnew1
        (by simp [Builtin.firstCells]) (by omega) (by omega) g4
      obtain ⟨ι', f1, f2, f3⟩ := grown_ok hr1 (elem := elem) (cap := cap) (need := n) hrow1 hnl1 e3 e1
      exact ⟨ι', _, _, e4, f1, f2, f3⟩
  · -- known capacity
    rename_i b off len cap c sz hc
    rcases bif'_some h11 with ⟨g3, h12⟩ | ⟨g3, h12⟩
    · obtain ⟨h2', hw, h13⟩ := obind_eq h12
      rw [forceN_eq] at h13; cases h13
      obtain ⟨w', hst, hr'⟩ := writeA_ok (P := P) hr hrow hc hw
      exact ⟨ι, w', _, append_place hd hxT hsz hlen hnew (bleT g3) hst, .refl ι, .slice _ _ _ _ _ _ hc, hr'⟩
    · rcases bif'_some h12 with ⟨g4, h13⟩ | ⟨_, h13⟩
      case inr => cases h13
      obtain ⟨p, hp, h14⟩ := obind_eq h13
      rw [forceN_eq, forceN_eq] at h14; cases h14
      have hlt : cap < len + n := by
        rcases Nat.lt_or_ge cap (len + n) with h | h
        · exact h
        · have h' : Nat.ble (Nat.add len n) cap = true := by rw [Nat.ble_eq]; exact h
          rw [g3] at h'; cases h'
      obtain ⟨old, hold, hrowo, ho1, _⟩ := cellsA_ok (P := P) hr1 (.slice b off len cap c sz hc) hp (fun e => by cases e)
      have hol : old.length = len * size := ho1 (fun _ _ h => by cases h)
      obtain ⟨ncap, zs, tail, e1, e2, e3, e4⟩ := grow_run (ty := ty) (old := old) (need := len + n) hd hxT hsz hby hz hzr (beqT g2) rfl hlen hnew1 hold rfl hlt g4
      obtain ⟨ι', f1, f2, f3⟩ := grown_ok hr1 (elem := elem) (cap := ncap) (need := len + n) (hrowo.rapp hrow1) (by simp [hol, hnl1, Nat.add_mul]) e3 e1
      exact ⟨ι', _, _, e4, f1, f2, f3⟩
  · -- unknown capacity
    rename_i b off len es c sz cap hc hle hsz'
    rcases bif'_some h11 with ⟨g3, h12⟩ | ⟨g3, h12⟩
    · have : n = 0 := beqT g3
      subst this
      cases h12
      have hnew0 : new = [] := by apply List.eq_nil_of_length_eq_zero; rw [hnl]; simp
      subst hnew0
      exact Good.same hr (append_place (off := off) (w' := w) hd hxT hsz hlen hnew (by omega) rfl) (.sliceu _ _ _ _ _ _ _ hc hle hsz')
    · rcases bif'_some h12 with ⟨g4, h13⟩ | ⟨_, h13⟩
      case inr => cases h13
      rcases bif'_some h13 with ⟨g5, h14⟩ | ⟨_, h14⟩
      case inr => cases h14
      rcases bif'_some h14 with ⟨g6, h15⟩ | ⟨_, h15⟩
      case inr => cases h15
      obtain ⟨o, ho, h16⟩ := obind_eq h15
      cases o with
      | cells r opn plain =>
        rcases bif'_some h16 with ⟨g7, h17⟩ | ⟨_, h17⟩
        case inr => cases h17
        rw [forceN_eq, forceN_eq] at h17; cases h17
        have hoff : off = 0 := beqT g4
        have hes : es = size := beqT g5
        have hrl : rlen r = len * size := beqT g7
        subst hoff; subst hes
        obtain ⟨cs, e, fz, ys, tl, rfl, a2, a3, a4, a5, a6⟩ := hr.cells ho hc
        have a1 := hc
        have hyl : ys.length = len * es := by rw [a4.length, hrl]
        by_cases hcap : len + n ≤ cap
        · -- in place
          have hle2 : len * es + 0 + new.length ≤ cs.size := by
            rw [hnl, ← hsz', Nat.add_zero, Nat.zero_add, ← Nat.add_mul]; exact Nat.mul_le_mul_right _ hcap
          have hst := run_storeCells_here P (c := c) (off := len * es) (e := e) (fz := fz) (plain := plain) new 0 w cs a2 a6 hle2 hrow.one'
          have hnew' : cs.toList.take (len * es + 0) ++ new ++ cs.toList.drop (len * es + 0 + new.length) = (ys ++ new) ++ tl.drop new.length := by
            rw [a3, Nat.add_zero, ← hyl, List.take_append_of_le_length (Nat.le_refl _), List.take_of_length_le (Nat.le_refl _)]
            congr 1
            rw [List.drop_append]; simp
          rw [hnew'] at hst
          have hsame : cs.size = ((ys ++ new) ++ tl.drop new.length).toArray.size := by
            have h1 : cs.size = ys.length + tl.length := by rw [← Array.length_toList, a3]; simp
            simp
            omega
          have hst' : (storeCells ⟨c, 0 + len * es, none⟩ new).run P w = .ok () (putObj w c (.cells ((ys ++ new) ++ tl.drop new.length).toArray e fz)) := by rw [Nat.zero_add]; exact hst
          refine ⟨ι.add h.next (c, cs.size), _, _, append_place (off := 0) hd hxT hsz hlen hnew hcap hst', hr.ext_new _, ?_, ?_⟩
          · exact .sliceu _ _ _ _ _ cs.size cap (by simp [Inj.add]) hcap hsz'
          · refine hr.rename ho a1 ?_
            rw [hsame]
            refine .cells _ true false _ e fz (ys ++ new) (tl.drop new.length) (by simp) ((a4.rapp hrow).mono (hr.ext_new _)) (fun h => by cases h) ?_
            rw [← hsame]
            rcases a6 with h | ⟨_, h⟩
            · exact .inl h
            · exact .inr ⟨rfl, h⟩
        · -- more room
          obtain ⟨p, hp1, hp2, hp3⟩ : ∃ p : List Value, (loadCells ⟨c, 0, none⟩ (len * es)).run P { w with drawn := w.drawn + 1 } = .ok p.toArray { w with drawn := w.drawn + 1 } ∧ RR env ι r p ∧ p.length = len * es := by
            refine ⟨ys, ?_, a4, hyl⟩
            have := run_loadCells_here P (w := { w with drawn := w.drawn + 1 }) (c := c) (off := 0) a2 (a := []) (b := ys) (d := tl) (by rw [a3]; rfl) rfl
            rwa [hyl] at this
          obtain ⟨ncap, zs, tail, e1, e2, e3, e4⟩ := grow_run (ty := ty) (old := p) (need := len + n) (s := .slice (some ⟨c, 0, none⟩) len cap) hd hxT hsz hby hz hzr (beqT g2) rfl hlen hnew1
            (by simpa [Builtin.firstCells] using hp1) rfl (by omega) g6
          obtain ⟨ι', f1, f2, f3⟩ := grown_ok (hr1.drop b (hr1.ph_none a1)) (elem := elem) (cap := ncap) (need := len + n) (hp2.rapp hrow1) (by simp [hp3, hnl1, Nat.add_mul]) e3 e1
          refine ⟨ι', _, _, e4, f1, f2, ?_⟩
          -- a row of open end that is written (0, 0) may also be told as not plain
          refine ⟨f3.old, f3.fresh, f3.rng, ?_, ?_, ?_⟩
          · intro b1 b2 o1 o2 c1 s1 s2 k1 k2 k3 k4
            have m1 : ∃ o, ((h.put b none).new (.cells (rapp r q) true true)).at b1 = some o := by
              rw [AHeap.at_new] at k1 ⊢
              by_cases hb : b1 = (h.put b none).next
              · rw [if_pos hb]; exact ⟨_, rfl⟩
              · rw [if_neg hb] at k1 ⊢; exact ⟨_, k1⟩
            have m2 : ∃ o, ((h.put b none).new (.cells (rapp r q) true true)).at b2 = some o := by
              rw [AHeap.at_new] at k2 ⊢
              by_cases hb : b2 = (h.put b none).next
              · rw [if_pos hb]; exact ⟨_, rfl⟩
              · rw [if_neg hb] at k2 ⊢; exact ⟨_, k2⟩
            obtain ⟨_, m1⟩ := m1
            obtain ⟨_, m2⟩ := m2
            exact f3.inj _ _ _ _ _ _ _ m1 m2 k3 k4
          · intro b1 o1 c1 s1 k1 y1
            rw [AHeap.at_new] at k1
            by_cases hb1 : b1 = (h.put b none).next
            · rw [if_pos hb1] at k1; cases k1
              obtain ⟨x1, y2, y3⟩ := f3.obj b1 (.cells (rapp r q) true true) c1 s1 (by rw [AHeap.at_new, if_pos hb1]) y1
              refine ⟨x1, y2, ?_⟩
              cases y3 with
              | cells _ _ _ cs e fz xs tail v1 v2 v3 v4 =>
                refine .cells _ _ _ cs e fz xs tail v1 v2 v3 ?_
                rcases v4 with h | ⟨h, _⟩
                · exact .inl h
                · cases h
            · rw [if_neg hb1] at k1
              exact f3.obj b1 o1 c1 s1 (by rw [AHeap.at_new, if_neg hb1]; exact k1) y1
          · intro b1 o1 h1
            obtain ⟨q1, q2, q3⟩ := f3.ph b1 o1 h1
            have hlt := (hr1.ph b1 o1 h1).1
            have hne : b1 ≠ (h.put b none).next := Nat.ne_of_lt hlt
            refine ⟨q1, q2, ?_⟩
            rw [AHeap.at_new, if_neg hne] at q3 ⊢
            exact q3
      | _ => cases h16

end
end Go.Ab
