/- Further operations: indexes, slices, strings, numbers of cells. -/
import Derived.Test.YtdakmcoggmlglaaGreatAbMem
import Derived.Great.FillDense
set_option linter.all false
namespace Go.Ab
open Go.RowKit
noncomputable section

variable {P : Program} {env : Nat → Value} {W : Base} {w : World} {ι : Inj} {h h' : AHeap}

theorem dig_getElem? (n : Nat) : ∀ N i, i < n → (dig n N)[i]? = some (N / 256 ^ i % 256) := by
  induction n with
  | zero => intro N i h; omega
  | succ n ih =>
    intro N i hi
    cases i with
    | zero => simp [dig]
    | succ i =>
      simp only [dig, List.getElem?_cons_succ]
      rw [ih _ _ (by omega), Nat.div_div_eq_div_mul, show 256 * 256 ^ i = 256 ^ (i + 1) from by rw [Nat.pow_succ, Nat.mul_comm]]

theorem digS_size (n N : Nat) : (digS n N).size = n := by simp [digS, ByteArray.size]

/-- the number of an index -/
def idxOf : AV → Option Nat
  | .int _ n => natOf n
  | _ => none

theorem idxOf_ok {v : AV} {n : Nat} {x : Value} (hv : VR env ι v x) (hn : idxOf v = some n) : ∃ k, x = .int k (n : Int) := by
  cases hv <;> first | (cases hn; done) | skip
  rename_i k m
  exact ⟨k, by rw [natOf_eq hn]⟩

def indexAtA (P : Program) (t : TypeId) (v ix : AV) : Option AV :=
  obind (idxOf ix) fun n => obind (P.underlying t) fun d => match d with
  | .array len elem => match v with
    | .ptr b off => bif' (Nat.blt n len) (obind (szOf P elem) fun s => forceN (Nat.add off (Nat.mul n s)) fun o => some (.ptr b o)) none
    | _ => none
  | .slice elem => match v with
    | .slice b off len _ => bif' (Nat.blt n len) (obind (szOf P elem) fun s => forceN (Nat.add off (Nat.mul n s)) fun o => some (.ptr b o)) none
    | .sliceu b off len _ => bif' (Nat.blt n len) (obind (szOf P elem) fun s => forceN (Nat.add off (Nat.mul n s)) fun o => some (.ptr b o)) none
    | _ => none
  | _ => none

theorem indexAtA_ok (hr : HR env W ι h w) {t : TypeId} {v ix u : AV} {x y : Value} (hv : VR env ι v x) (hx : VR env ι ix y) (hl : indexAtA P t v ix = some u) :
    Good P env W (Instr.indexAt t x y) w ι u h := by
  obtain ⟨n, hn, h1⟩ := obind_eq hl
  obtain ⟨k, rfl⟩ := idxOf_ok hx hn
  obtain ⟨d, hd, h2⟩ := obind_eq h1
  cases d <;> first | (cases h2; done) | skip
  · rename_i elem
    cases hv <;> first | (cases h2; done) | skip
    · rename_i b off len cap c s hc
      rcases bif'_some h2 with ⟨hb, h3⟩ | ⟨_, h3⟩
      case inr => cases h3
      obtain ⟨z, hz, h4⟩ := obind_eq h3
      rw [forceN_eq] at h4; cases h4
      have hlt : n < len := bltT hb
      refine Good.same hr (x := .pointer (some ⟨c, off + n * z, none⟩)) ?_ (.ptr _ _ _ _ hc)
      have : (0 : Int) ≤ (n : Int) ∧ (n : Int) < (len : Int) := by omega
      simp [Instr.indexAt, asIntOf, run_underlying hd, run_sizeOf hz, add_none, hlt]
    · rename_i b off len es c s cap hc h5 h6
      rcases bif'_some h2 with ⟨hb, h3⟩ | ⟨_, h3⟩
      case inr => cases h3
      obtain ⟨z, hz, h4⟩ := obind_eq h3
      rw [forceN_eq] at h4; cases h4
      have hlt : n < len := bltT hb
      refine Good.same hr (x := .pointer (some ⟨c, off + n * z, none⟩)) ?_ (.ptr _ _ _ _ hc)
      simp [Instr.indexAt, asIntOf, run_underlying hd, run_sizeOf hz, add_none, hlt]
  · rename_i len elem
    cases hv <;> first | (cases h2; done) | skip
    rename_i b off c s hc
    rcases bif'_some h2 with ⟨hb, h3⟩ | ⟨_, h3⟩
    case inr => cases h3
    obtain ⟨z, hz, h4⟩ := obind_eq h3
    rw [forceN_eq] at h4; cases h4
    have hlt : n < len := bltT hb
    refine Good.same hr (x := .pointer (some ⟨c, off + n * z, none⟩)) ?_ (.ptr _ _ _ _ hc)
    simp [Instr.indexAt, asIntOf, run_underlying hd, run_sizeOf hz, add_none, hlt, Instr.sureAddr]

/-- x[i] of an array or a string -/
def indexA (P : Program) (t : TypeId) (v ix : AV) : Option AV :=
  obind (idxOf ix) fun n => obind (P.underlying t) fun d => match d with
  | .array len elem => match v with
    | .agg r => bif' (Nat.blt n len) (obind (szOf P elem) fun s => partA P elem r (Nat.mul n s)) none
    | _ => none
  | .string => match v with
    | .str m N => bif' (Nat.blt n m) (some (mkI .u8 (.ofNat (Nat.mod (Nat.div N (Nat.pow 256 n)) 256)))) none
    | _ => none
  | _ => none

theorem digS_get {n N i : Nat} (hi : i < n) : (digS n N)[i]? = some (UInt8.ofNat (N / 256 ^ i % 256)) := by
  have h0 : i < (digS n N).size := by rw [digS_size]; exact hi
  rw [getElem?_pos (digS n N) i h0]
  have h1 : (digS n N)[i] = ((dig n N).map UInt8.ofNat).toArray[i]'(by simpa using hi) := rfl
  rw [h1]
  have h2 := dig_getElem? n N i hi
  rw [List.getElem?_eq_some_iff] at h2
  obtain ⟨h3, h4⟩ := h2
  simp [h4]

theorem indexA_ok (hr : HR env W ι h w) {t : TypeId} {v ix u : AV} {x y : Value} (hv : VR env ι v x) (hx : VR env ι ix y) (hl : indexA P t v ix = some u) :
    Good P env W (Instr.index t x y) w ι u h := by
  obtain ⟨n, hn, h1⟩ := obind_eq hl
  obtain ⟨k, rfl⟩ := idxOf_ok hx hn
  obtain ⟨d, hd, h2⟩ := obind_eq h1
  cases d <;> first | (cases h2; done) | skip
  · cases hv <;> first | (cases h2; done) | skip
    rename_i m N
    rcases bif'_some h2 with ⟨hb, h3⟩ | ⟨_, h3⟩
    case inr => cases h3
    cases h3
    have hlt : n < m := bltT hb
    rw [mkI_eq]
    refine Good.same hr (x := .int .u8 ((N / 256 ^ n % 256 : Nat) : Int)) ?_ (.int _ _)
    have hm : N / 256 ^ n % 256 < 256 := by omega
    simp [Instr.index, asIntOf, run_underlying hd, digS_get hlt]
  · rename_i len elem
    cases hv <;> first | (cases h2; done) | skip
    rename_i r xs hrow
    rcases bif'_some h2 with ⟨hb, h3⟩ | ⟨_, h3⟩
    case inr => cases h3
    obtain ⟨z, hz, h4⟩ := obind_eq h3
    have hlt : n < len := bltT hb
    obtain ⟨q, hq, hvq⟩ := partA_ok hrow h4 w
    refine Good.same hr (x := q) ?_ hvq
    have hq' : Sem.run P (part elem xs.toArray (n * z)) w = .ok q w := hq
    simp [Instr.index, asIntOf, run_underlying hd, run_sizeOf hz, hlt, hq']

/-- bounds: low, high, max; n: the length, c: the capacity -/
def oidx : Option AV → Option (Option Nat)
  | none => some none
  | some v => obind (idxOf v) fun n => some (some n)

def boundsA (len cap : Nat) (low high mx : Option AV) : Option (Nat × Nat × Nat) :=
  obind (oidx mx) fun m => obind (oidx high) fun hh => obind (oidx low) fun l =>
    match m with
    | none =>
      match hh with
      | none => match l with
        | none => some (0, len, cap)
        | some l => bif' (Nat.ble l len) (some (l, len, cap)) none
      | some hh => bif' (Nat.ble hh cap) (match l with
        | none => some (0, hh, cap)
        | some l => bif' (Nat.ble l hh) (some (l, hh, cap)) none) none
    | some m => bif' (Nat.ble m cap) (match hh with
      | none => none
      | some hh => bif' (Nat.ble hh m) (match l with
        | none => some (0, hh, m)
        | some l => bif' (Nat.ble l hh) (some (l, hh, m)) none) none) none

inductive OVR (env : Nat → Value) (ι : Inj) : Option AV → Option Value → Prop where
  | none : OVR env ι none none
  | some (v : AV) (x : Value) : VR env ι v x → OVR env ι (some v) (some x)

theorem sliceBound_ok {k : IntKind} {n y : Nat} (c : BoundsCode) (hn : n ≤ y) (w : World) : (Instr.sliceBound (.int k (n : Int)) y c).run P w = .ok n w := by
  simp [Instr.sliceBound, asIntOf, hn]

theorem oidx_ok {v : Option AV} {x : Option Value} {n : Option Nat} (hv : OVR env ι v x) (hn : oidx v = some n) :
    (x = none ∧ n = none) ∨ ∃ (k : IntKind) (m : Nat), x = some (.int k (m : Int)) ∧ n = some m := by
  cases hv with
  | none => cases hn; exact .inl ⟨rfl, rfl⟩
  | some v x hv =>
    obtain ⟨m, hm, h1⟩ := obind_eq hn
    cases h1
    obtain ⟨k, rfl⟩ := idxOf_ok hv hm
    exact .inr ⟨k, m, rfl, rfl⟩

theorem boundsA_ok {isSlice : Bool} {len cap : Nat} {low high mx : Option AV} {lo hi mm : Option Value} {r : Nat × Nat × Nat} (hlo : OVR env ι low lo) (hhi : OVR env ι high hi) (hm : OVR env ι mx mm)
    (hB : boundsA len cap low high mx = some r) (w : World) : (Instr.sliceBounds isSlice len cap lo hi mm).run P w = .ok r w ∧ r.1 ≤ r.2.1 := by
  obtain ⟨m, e1, h1⟩ := obind_eq hB
  obtain ⟨hh, e2, h2⟩ := obind_eq h1
  obtain ⟨l, e3, h3⟩ := obind_eq h2
  rcases oidx_ok hm e1 with ⟨rfl, rfl⟩ | ⟨k1, m, rfl, rfl⟩
  · rcases oidx_ok hhi e2 with ⟨rfl, rfl⟩ | ⟨k2, hh, rfl, rfl⟩
    · rcases oidx_ok hlo e3 with ⟨rfl, rfl⟩ | ⟨k3, l, rfl, rfl⟩
      · cases h3; exact ⟨by simp [Instr.sliceBounds], Nat.zero_le _⟩
      · rcases bif'_some h3 with ⟨hb, h4⟩ | ⟨_, h4⟩
        · cases h4; exact ⟨by simp [Instr.sliceBounds, sliceBound_ok _ (bleT hb)], bleT hb⟩
        · cases h4
    · rcases bif'_some h3 with ⟨hb, h4⟩ | ⟨_, h4⟩
      case inr => cases h4
      rcases oidx_ok hlo e3 with ⟨rfl, rfl⟩ | ⟨k3, l, rfl, rfl⟩
      · cases h4; exact ⟨by simp [Instr.sliceBounds, sliceBound_ok _ (bleT hb)], Nat.zero_le _⟩
      · rcases bif'_some h4 with ⟨hb2, h5⟩ | ⟨_, h5⟩
        · cases h5; exact ⟨by simp [Instr.sliceBounds, sliceBound_ok _ (bleT hb), sliceBound_ok _ (bleT hb2)], bleT hb2⟩
        · cases h5
  · rcases bif'_some h3 with ⟨hb, h4⟩ | ⟨_, h4⟩
    case inr => cases h4
    rcases oidx_ok hhi e2 with ⟨rfl, rfl⟩ | ⟨k2, hh, rfl, rfl⟩
    · cases h4
    · rcases bif'_some h4 with ⟨hb1, h5⟩ | ⟨_, h5⟩
      case inr => cases h5
      rcases oidx_ok hlo e3 with ⟨rfl, rfl⟩ | ⟨k3, l, rfl, rfl⟩
      · cases h5; exact ⟨by simp [Instr.sliceBounds, sliceBound_ok _ (bleT hb), sliceBound_ok _ (bleT hb1)], Nat.zero_le _⟩
      · rcases bif'_some h5 with ⟨hb2, h6⟩ | ⟨_, h6⟩
        · cases h6; exact ⟨by simp [Instr.sliceBounds, sliceBound_ok _ (bleT hb), sliceBound_ok _ (bleT hb1), sliceBound_ok _ (bleT hb2)], bleT hb2⟩
        · cases h6

/-- a slice of what lies at off of b: low, high, max are known -/
def cutA (b off l hh m s : Nat) : Option AV :=
  bif' (Nat.beq m l) (some (.slice b off (Nat.sub hh l) (Nat.sub m l)))
    (forceN (Nat.add off (Nat.mul l s)) fun o => forceN (Nat.sub hh l) fun n => forceN (Nat.sub m l) fun c => some (.slice b o n c))

theorem cutA_ok {b off l hh m s c sz : Nat} {u : AV} (hc : ι b = some (c, sz)) (hl : cutA b off l hh m s = some u) :
    VR env ι u (.slice (some (if m = l then ⟨c, off, none⟩ else (⟨c, off, none⟩ : Addr).add (l * s))) (hh - l) (m - l)) := by
  rcases bif'_some hl with ⟨hb, h1⟩ | ⟨hb, h1⟩
  · cases h1; rw [if_pos (beqT hb)]; exact .slice _ _ _ _ _ _ hc
  · rw [forceN_eq, forceN_eq, forceN_eq] at h1; cases h1
    rw [if_neg (beqF hb), add_none]; exact .slice _ _ _ _ _ _ hc

/-- the same, of unknown capacity: low and high up to the length -/
def cutuA (b off len es l hh : Nat) : Option AV :=
  bif' (Nat.ble hh len) (bif' (Nat.beq l 0) (forceN hh fun n => some (.sliceu b off n es))
    (bif' (Nat.blt l hh) (forceN (Nat.add off (Nat.mul l es)) fun o => forceN (Nat.sub hh l) fun n => some (.sliceu b o n es)) none)) none

theorem cutuA_ok {b off len es l hh c sz cap : Nat} {u : AV} (hc : ι b = some (c, sz)) (h1 : len ≤ cap) (h2 : off + cap * es = sz) (hl : cutuA b off len es l hh = some u) :
    hh ≤ cap ∧ VR env ι u (.slice (some (if cap = l then ⟨c, off, none⟩ else (⟨c, off, none⟩ : Addr).add (l * es))) (hh - l) (cap - l)) := by
  rcases bif'_some hl with ⟨hb, h3⟩ | ⟨_, h3⟩
  case inr => cases h3
  have hle : hh ≤ len := bleT hb
  refine ⟨by omega, ?_⟩
  rcases bif'_some h3 with ⟨hz, h4⟩ | ⟨_, h4⟩
  · rw [forceN_eq] at h4; cases h4
    have : l = 0 := beqT hz
    subst this
    have e : (if cap = 0 then ⟨c, off, none⟩ else (⟨c, off, none⟩ : Addr).add (0 * es)) = ⟨c, off, none⟩ := by rw [add_none]; simp
    rw [e]; exact .sliceu _ _ _ _ _ _ _ hc (by omega) h2
  · rcases bif'_some h4 with ⟨hlt, h5⟩ | ⟨_, h5⟩
    case inr => cases h5
    rw [forceN_eq, forceN_eq] at h5; cases h5
    have : l < hh := bltT hlt
    rw [if_neg (by omega), add_none]
    refine .sliceu _ _ _ _ _ _ _ hc (by show hh - l ≤ cap - l; omega) ?_
    show off + l * es + (cap - l) * es = sz
    rw [Nat.add_assoc, ← Nat.add_mul, show l + (cap - l) = cap from by omega, h2]

def sliceA (P : Program) (t : TypeId) (v : AV) (low high mx : Option AV) : Option AV :=
  obind (P.underlying t) fun d => match d with
  | .array n elem => match v with
    | .ptr b off => obind (boundsA n n low high mx) fun p => obind (szOf P elem) fun s => cutA b off p.1 p.2.1 p.2.2 s
    | _ => none
  | .slice elem => match v with
    | .slice b off len cap => obind (boundsA len cap low high mx) fun p => obind (szOf P elem) fun s => cutA b off p.1 p.2.1 p.2.2 s
    | .sliceu b off len es => match mx with
      | none => obind (boundsA len len low high none) fun p => obind (szOf P elem) fun s => bif' (Nat.beq s es) (cutuA b off len es p.1 p.2.1) none
      | some _ => none
    | .nils => obind (boundsA 0 0 low high mx) fun p => obind (szOf P elem) fun _ => bif' (Nat.beq p.2.2 0) (some .nils) none
    | _ => none
  | .string => match v, mx with
    | .str n N, none => obind (boundsA n n low high none) fun p => forceN (Nat.sub p.2.1 p.1) fun m => forceN (Nat.mod (Nat.div N (Nat.pow 256 p.1)) (Nat.pow 256 (Nat.sub p.2.1 p.1))) fun M => some (.str m M)
    | _, _ => none
  | _ => none

theorem digS_mod (n N : Nat) : digS n (N % 256 ^ n) = digS n N := by simp [digS, dig_mod]

theorem digS_extract {n N l hh : Nat} (h1 : l ≤ hh) (h2 : hh ≤ n) : (digS n N).extract l hh = digS (hh - l) (N / 256 ^ l) := by
  have : ((digS n N).extract l hh).data = (digS (hh - l) (N / 256 ^ l)).data := by
    rw [ByteArray.data_extract]
    simp only [digS]
    apply Array.ext'
    simp only [Array.toList_extract, List.extract_eq_take_drop]
    rw [← List.map_drop, ← List.map_take]
    congr 1
    have e1 : n = l + (n - l) := by omega
    rw [e1, dig_drop]
    have e2 : n - l = (hh - l) + (n - hh) := by omega
    rw [e2, dig_take]
  exact ByteArray.ext this

/-- bounds that stand by the length stand by a capacity that is no less -/
theorem bounds_up {isSlice : Bool} {len cap : Nat} {low high : Option AV} {lo hi : Option Value} {r : Nat × Nat × Nat} (hlo : OVR env ι low lo) (hhi : OVR env ι high hi)
    (hB : boundsA len len low high none = some r) (hle : len ≤ cap) (w : World) : (Instr.sliceBounds isSlice len cap lo hi none).run P w = .ok (r.1, r.2.1, cap) w ∧ r.1 ≤ r.2.1 ∧ r.2.1 ≤ len := by
  obtain ⟨m, e1, h1⟩ := obind_eq hB
  cases e1
  obtain ⟨hh, e2, h2⟩ := obind_eq h1
  obtain ⟨l, e3, h3⟩ := obind_eq h2
  rcases oidx_ok hhi e2 with ⟨rfl, rfl⟩ | ⟨k2, hh, rfl, rfl⟩
  · rcases oidx_ok hlo e3 with ⟨rfl, rfl⟩ | ⟨k3, l, rfl, rfl⟩
    · cases h3; exact ⟨by simp [Instr.sliceBounds], Nat.zero_le _, Nat.le_refl _⟩
    · rcases bif'_some h3 with ⟨hb, h4⟩ | ⟨_, h4⟩
      · cases h4; exact ⟨by simp [Instr.sliceBounds, sliceBound_ok _ (bleT hb)], bleT hb, Nat.le_refl _⟩
      · cases h4
  · rcases bif'_some h3 with ⟨hb, h4⟩ | ⟨_, h4⟩
    case inr => cases h4
    have hb' := bleT hb
    have hc : hh ≤ cap := by omega
    rcases oidx_ok hlo e3 with ⟨rfl, rfl⟩ | ⟨k3, l, rfl, rfl⟩
    · cases h4; exact ⟨by simp [Instr.sliceBounds, sliceBound_ok _ hc], Nat.zero_le _, hb'⟩
    · rcases bif'_some h4 with ⟨hb2, h5⟩ | ⟨_, h5⟩
      · cases h5; exact ⟨by simp [Instr.sliceBounds, sliceBound_ok _ hc, sliceBound_ok _ (bleT hb2)], bleT hb2, hb'⟩
      · cases h5

theorem sliceA_ok (hr : HR env W ι h w) {t : TypeId} {v u : AV} {x : Value} {low high mx : Option AV} {lo hi mm : Option Value} (hv : VR env ι v x)
    (hlo : OVR env ι low lo) (hhi : OVR env ι high hi) (hm : OVR env ι mx mm) (hl : sliceA P t v low high mx = some u) : Good P env W (Instr.sliceAt t x lo hi mm) w ι u h := by
  obtain ⟨d, hd, h2⟩ := obind_eq hl
  cases d <;> first | (cases h2; done) | skip
  · -- a string
    cases hv <;> first | (cases h2; done) | skip
    rename_i n N
    cases hm with
    | some _ _ _ => cases h2
    | none =>
      obtain ⟨p, hp, h3⟩ := obind_eq h2
      rw [forceN_eq, forceN_eq] at h3; cases h3
      obtain ⟨hb, hle, hln⟩ := bounds_up (P := P) (isSlice := false) hlo hhi hp (Nat.le_refl _) w
      refine Good.same hr (x := .string ((digS n N).extract p.1 p.2.1)) ?_ ?_
      · simp [Instr.sliceAt, run_underlying hd, Instr.slice, hb, digS_size]
      · have := VR.str (env := env) (ι := ι) (p.2.1 - p.1) (N / 256 ^ p.1 % 256 ^ (p.2.1 - p.1))
        rw [digS_mod, ← digS_extract hle hln] at this
        exact this
  · -- a slice
    rename_i elem
    cases hv <;> first | (cases h2; done) | skip
    · obtain ⟨p, hp, h3⟩ := obind_eq h2
      obtain ⟨s, hs, h4⟩ := obind_eq h3
      rcases bif'_some h4 with ⟨hz, h5⟩ | ⟨_, h5⟩
      case inr => cases h5
      cases h5
      obtain ⟨hb, hle⟩ := boundsA_ok (P := P) (isSlice := true) hlo hhi hm hp w
      have hm0 : p.2.2 = 0 := beqT hz
      refine Good.same hr (x := .slice none (p.2.1 - p.1) (p.2.2 - p.1)) ?_ ?_
      · simp [Instr.sliceAt, run_underlying hd, Instr.slice, hb, run_sizeOf hs]
      · have h21 : p.2.1 = 0 := by
          obtain ⟨m, e1, g1⟩ := obind_eq hp
          obtain ⟨hh, e2, g2⟩ := obind_eq g1
          obtain ⟨l, e3, g3⟩ := obind_eq g2
          cases m with
          | none =>
            cases hh with
            | none => cases l with
              | none => cases g3; rfl
              | some l => rcases bif'_some g3 with ⟨_, g4⟩ | ⟨_, g4⟩ <;> cases g4; rfl
            | some hh =>
              rcases bif'_some g3 with ⟨gb, g4⟩ | ⟨_, g4⟩
              · have := bleT gb
                cases l with
                | none => cases g4; show hh = 0; omega
                | some l => rcases bif'_some g4 with ⟨_, g5⟩ | ⟨_, g5⟩ <;> cases g5; show hh = 0; omega
              · cases g4
          | some m =>
            rcases bif'_some g3 with ⟨gb, g4⟩ | ⟨_, g4⟩
            · have := bleT gb
              cases hh with
              | none => cases g4
              | some hh =>
                rcases bif'_some g4 with ⟨gb2, g5⟩ | ⟨_, g5⟩
                · have := bleT gb2
                  cases l with
                  | none => cases g5; (have : m = 0 := hm0); show hh = 0; omega
                  | some l => rcases bif'_some g5 with ⟨_, g6⟩ | ⟨_, g6⟩ <;> cases g6; (have : m = 0 := hm0); show hh = 0; omega
                · cases g5
            · cases g4
        rw [hm0, h21, Nat.zero_sub]; exact .nils
    · rename_i b off len cap c sz hc
      obtain ⟨p, hp, h3⟩ := obind_eq h2
      obtain ⟨s, hs, h4⟩ := obind_eq h3
      obtain ⟨hb, hle⟩ := boundsA_ok (P := P) (isSlice := true) hlo hhi hm hp w
      refine Good.same hr (x := .slice (some (if p.2.2 = p.1 then ⟨c, off, none⟩ else (⟨c, off, none⟩ : Addr).add (p.1 * s))) (p.2.1 - p.1) (p.2.2 - p.1)) ?_ (cutA_ok hc h4)
      simp only [Instr.sliceAt, Sem.run_bind, run_underlying hd, Result.andThen_ok, Instr.slice, hb, run_sizeOf hs, Sem.run_pure]
      split <;> rfl
    · rename_i b off len es c sz cap hc h5 h6
      cases hm with
      | some _ _ _ => cases h2
      | none =>
        obtain ⟨p, hp, h3⟩ := obind_eq h2
        obtain ⟨s, hs, h4⟩ := obind_eq h3
        rcases bif'_some h4 with ⟨hz, h7⟩ | ⟨_, h7⟩
        case inr => cases h7
        have : s = es := beqT hz
        subst this
        obtain ⟨hb, hle, hln⟩ := bounds_up (P := P) (isSlice := true) hlo hhi hp h5 w
        obtain ⟨hcap, hvr⟩ := cutuA_ok (env := env) hc h5 h6 h7
        refine Good.same hr (x := .slice (some (if cap = p.1 then ⟨c, off, none⟩ else (⟨c, off, none⟩ : Addr).add (p.1 * s))) (p.2.1 - p.1) (cap - p.1)) ?_ hvr
        simp only [Instr.sliceAt, Sem.run_bind, run_underlying hd, Result.andThen_ok, Instr.slice, hb, run_sizeOf hs, Sem.run_pure]
        split <;> rfl
  · -- an array
    rename_i n elem
    cases hv <;> first | (cases h2; done) | skip
    rename_i b off c sz hc
    obtain ⟨p, hp, h3⟩ := obind_eq h2
    obtain ⟨s, hs, h4⟩ := obind_eq h3
    obtain ⟨hb, hle⟩ := boundsA_ok (P := P) (isSlice := false) hlo hhi hm hp w
    refine Good.same hr (x := .slice (some (if p.2.2 = p.1 then ⟨c, off, none⟩ else (⟨c, off, none⟩ : Addr).add (p.1 * s))) (p.2.1 - p.1) (p.2.2 - p.1)) ?_ (cutA_ok hc h4)
    simp only [Instr.sliceAt, Sem.run_bind, run_underlying hd, Result.andThen_ok, hb, run_sizeOf hs, Sem.run_pure, Instr.sureAddr]

/-- a slice as an array's place -/
def arrayAtA (P : Program) (t : TypeId) (v : AV) : Option AV :=
  obind (P.underlying t) fun d => match d with
  | .array n _ => match v with
    | .slice b off len _ => bif' (Nat.ble n len) (some (.ptr b off)) none
    | .sliceu b off len _ => bif' (Nat.ble n len) (some (.ptr b off)) none
    | _ => none
  | _ => none

theorem arrayAtA_ok (hr : HR env W ι h w) {t : TypeId} {v u : AV} {x : Value} (hv : VR env ι v x) (hl : arrayAtA P t v = some u) : Good P env W (Instr.arrayAt t x) w ι u h := by
  obtain ⟨d, hd, h2⟩ := obind_eq hl
  cases d <;> first | (cases h2; done) | skip
  rename_i n elem
  cases hv <;> first | (cases h2; done) | skip
  · rename_i b off len cap c sz hc
    rcases bif'_some h2 with ⟨hb, h3⟩ | ⟨_, h3⟩
    case inr => cases h3
    cases h3
    have : ¬ len < n := by have := bleT hb; omega
    exact Good.same hr (x := .pointer (some ⟨c, off, none⟩)) (by simp [Instr.arrayAt, run_underlying hd, this]) (.ptr _ _ _ _ hc)
  · rename_i b off len es c sz cap hc h5 h6
    rcases bif'_some h2 with ⟨hb, h3⟩ | ⟨_, h3⟩
    case inr => cases h3
    cases h3
    have : ¬ len < n := by have := bleT hb; omega
    exact Good.same hr (x := .pointer (some ⟨c, off, none⟩)) (by simp [Instr.arrayAt, run_underlying hd, this]) (.ptr _ _ _ _ hc)

end
end Go.Ab
