/- Maps. -/
import Derived.Test.YtdakmcoggmlglaaGreatAbEqT
set_option linter.all false
namespace Go.Ab
open Go.RowKit
noncomputable section

variable {P : Program} {env : Nat → Value} {W : Base} {w : World} {ι : Inj} {h h' : AHeap}

/-- the same numbers, strings, truths, to the cell -/
def cellSame (x y : AV) : Bool :=
  match x, y with
  | .int k a, .int k' b => bif' (Nat.beq (kidx k) (kidx k')) (ieq a b) false
  | .str n N, .str m M => strEq n N m M
  | .bool a, .bool b => beqB a b
  | _, _ => false

def isPlainV : Value → Bool
  | .int _ _ => true
  | .string _ => true
  | .bool _ => true
  | _ => false

theorem cellSame_ok {x y : AV} {xv yv : Value} (hx : VR env ι x xv) (hy : VR env ι y yv) (h : cellSame x y = true) : xv = yv ∧ isPlainV xv = true := by
  cases hx <;> first | (cases y <;> cases h; done) | skip
  · cases hy <;> first | (cases h; done) | skip
    rename_i a b
    have : (a == b) = true := by rw [← beqB_eq]; exact h
    rw [eq_of_beq this]; exact ⟨rfl, rfl⟩
  · cases hy <;> first | (cases h; done) | skip
    rename_i k a k' b
    cases hb : Nat.beq (kidx k) (kidx k') with
    | false => rw [cellSame, hb] at h; cases h
    | true =>
      rw [cellSame, hb] at h
      have := kidx_inj hb
      subst this
      rw [(ieq_iff a b).1 h]; exact ⟨rfl, rfl⟩
  · cases hy <;> first | (cases h; done) | skip
    rw [(strEq_iff _ _ _ _).1 h]; exact ⟨rfl, rfl⟩

def rowSame (r : Row) : Row → Bool :=
  List.rec (fun q => q.isEmpty) (fun s _ ih q => match s, q with
    | .bytes n N, .bytes m M :: q => bif' (strEq n N m M) (ih q) false
    | .one x, .one y :: q => bif' (cellSame x y) (ih q) false
    | _, _ => false) r

theorem strEq_digV {n N m M : Nat} (h : strEq n N m M = true) : digV n N = digV m M := by
  unfold strEq at h
  cases hb : Nat.beq n m with
  | false => rw [hb] at h; cases h
  | true =>
    rw [hb] at h
    have e := beqT hb
    subst e
    have h2 : N % 256 ^ n = M % 256 ^ n := beqT h
    simp only [digV]
    rw [← dig_mod, h2, dig_mod]

theorem bif'_true_of {b : Bool} {x : Bool} (h : bif' b x false = true) : b = true ∧ x = true := by
  cases b
  · cases h
  · exact ⟨rfl, h⟩

theorem rowSame_ok : ∀ {r q : Row} {xs ys : List Value}, RR env ι r xs → RR env ι q ys → rowSame r q = true → xs = ys ∧ ∀ x ∈ xs, isPlainV x = true
  | [], q, xs, ys, hr, hq, h => by
    cases hr
    have : q = [] := by cases q with | nil => rfl | cons _ _ => cases h
    subst this
    cases hq
    exact ⟨rfl, fun _ h => by cases h⟩
  | .one x :: r, q, xs, ys, hr, hq, h => by
    cases q with
    | nil => cases h
    | cons s q =>
      cases s with
      | bytes m M => cases h
      | one y =>
        obtain ⟨h1, h2⟩ := bif'_true_of h
        cases hr with
        | one _ xv _ xs a b c =>
          cases hq with
          | one _ yv _ ys a' b' c' =>
            obtain ⟨e1, e2⟩ := cellSame_ok a a' h1
            obtain ⟨e3, e4⟩ := rowSame_ok c c' h2
            subst e1; subst e3
            exact ⟨rfl, fun x hx => by
              cases hx with
              | head => exact e2
              | tail _ hx => exact e4 x hx⟩
  | .bytes n N :: r, q, xs, ys, hr, hq, h => by
    cases q with
    | nil => cases h
    | cons s q =>
      cases s with
      | one y => cases h
      | bytes m M =>
        obtain ⟨h1, h2⟩ := bif'_true_of h
        cases hr with
        | bytes _ _ _ xs c =>
          cases hq with
          | bytes _ _ _ ys c' =>
            obtain ⟨e3, e4⟩ := rowSame_ok c c' h2
            subst e3
            refine ⟨by rw [strEq_digV h1], fun x hx => ?_⟩
            rcases List.mem_append.1 hx with hx | hx
            · obtain ⟨d, _, rfl⟩ := List.mem_map.1 hx; rfl
            · exact e4 x hx

def valSame (x y : AV) : Bool :=
  match x, y with
  | .agg r, .agg q => rowSame r q
  | x, y => cellSame x y

theorem sameBits_plain {n : Nat} {x : Value} (h : isPlainV x = true) : Instr.sameBits n x x = true := by
  cases x <;> first | (cases h; done) | skip
  · cases n <;> simp [Instr.sameBits]
  · cases n <;> simp [Instr.sameBits]
  · cases n <;> exact (bytes_beq _ _).2 rfl

theorem sameBits_agg {n : Nat} {xs : List Value} (h : ∀ x ∈ xs, isPlainV x = true) : Instr.sameBits (n + 1) (.agg xs.toArray) (.agg xs.toArray) = true := by
  simp only [Instr.sameBits, beq_self_eq_true, Bool.true_and, List.all_eq_true]
  rintro ⟨a, b⟩ hab
  have : a = b ∧ a ∈ xs := by
    have := List.of_mem_zip hab
    have h2 : ∀ (l : List Value) (p : Value × Value), p ∈ l.zip l → p.1 = p.2 := by
      intro l
      induction l with
      | nil => intro p h; cases h
      | cons y l ih =>
        intro p h
        simp only [List.zip_cons_cons, List.mem_cons] at h
        rcases h with h | h
        · rw [h]
        · exact ih p h
    exact ⟨h2 _ _ hab, by simpa using this.1⟩
  obtain ⟨rfl, hm⟩ := this
  exact sameBits_plain (h a hm)

theorem valSame_ok {x y : AV} {xv yv : Value} (hx : VR env ι x xv) (hy : VR env ι y yv) (h : valSame x y = true) : xv = yv ∧ Instr.sameBits 10000 xv yv = true := by
  have gen : cellSame x y = true → xv = yv ∧ Instr.sameBits 10000 xv yv = true := fun h => by
    obtain ⟨e1, e2⟩ := cellSame_ok hx hy h
    subst e1
    exact ⟨rfl, sameBits_plain e2⟩
  cases hx with
  | agg r xs hr =>
    cases hy with
    | agg q ys hq =>
      obtain ⟨e1, e2⟩ := rowSame_ok hr hq h
      subst e1
      exact ⟨rfl, sameBits_agg (n := 9999) e2⟩
    | _ => cases h
  | _ => cases y <;> exact gen h

/-- keys that are structs of plain fields -/
def plainT (P : Program) (t : TypeId) : Bool :=
  match P.underlying t with
  | some d => plainKey d
  | none => false

def structKey (P : Program) (d : TypeDesc) : Bool :=
  match d with
  | .struct fs => fs.toList.all fun f => plainT P f.type
  | _ => false

def isTrue (x : Option Bool) : Bool :=
  match x with
  | some b => b
  | none => false

def keyOk (P : Program) (key : TypeId) (d : TypeDesc) (k : AV) : Bool := bif' (plainKey d) true (bif' (structKey P d) (isTrue (eqT P 40 key k k)) false)

theorem checkFields {cmp : TypeId → AV → AV → Option Bool} {r : Row} {xs : List Value} (hr : RR env ι r xs) (e : Bool) (n : Nat) (w : World) :
    ∀ {fs : List Field}, (∀ f ∈ fs, plainT P f.type = true) → eqFields cmp P r r fs = some true →
      ((forIn fs PUnit.unit fun f _ => (do
        if f.name ≠ "_" then Instr.checkKey e (n + 1) f.type (← part f.type xs.toArray f.offset)
        pure (ForInStep.yield PUnit.unit) : Sem (ForInStep PUnit))) : Sem PUnit).run P w = .ok PUnit.unit w
  | [], _, _ => rfl
  | f :: fs, hp, h => by
    rw [List.forIn_cons]
    have hpf := hp f (by simp)
    have hps : ∀ f ∈ fs, plainT P f.type = true := fun f hf => hp f (by simp [hf])
    rcases bif'_some h with ⟨h0, h1⟩ | ⟨h0, h1⟩
    · obtain ⟨x, hx, h2⟩ := obind_eq h1
      obtain ⟨y, hy, h3⟩ := obind_eq h2
      obtain ⟨c, hc, h4⟩ := obind_eq h3
      rcases bif'_some h4 with ⟨rfl, h5⟩ | ⟨_, h5⟩
      case inr => cases h5
      obtain ⟨xv, e1, v1⟩ := partA_ok hr hx w
      have hn : f.name ≠ "_" := of_decide_eq_true h0
      rw [if_pos hn]
      have hck : (Instr.checkKey e (n + 1) f.type xv).run P w = .ok () w := by
        unfold plainT at hpf
        split at hpf
        · rename_i d hd; exact checkKey_succ hd hpf e n xv w
        · cases hpf
      simp only [Sem.run_bind, e1, hck, Result.andThen_ok, Sem.run_pure]
      exact checkFields hr e n w hps h5
    · have hn : ¬ f.name ≠ "_" := of_decide_eq_false h0
      rw [if_neg hn]
      simp only [Sem.run_bind, Result.andThen_ok, Sem.run_pure]
      exact checkFields hr e n w hps h1

theorem checkStruct {key : TypeId} {fs : Array Field} {xs : Array Value} {e : Bool} {n : Nat} (hd : P.underlying key = some (.struct fs))
    (hf : ((forIn fs.toList PUnit.unit fun f _ => (do
        if f.name ≠ "_" then Instr.checkKey e n f.type (← part f.type xs f.offset)
        pure (ForInStep.yield PUnit.unit) : Sem (ForInStep PUnit))) : Sem PUnit).run P w = .ok PUnit.unit w) : (Instr.checkKey e (n + 1) key (.agg xs)).run P w = .ok () w := by
  simp only [Instr.checkKey, Sem.run_bind, run_underlying hd, Result.andThen_ok]
  rw [← Array.forIn_toList]
  refine (congrArg (fun r => Result.andThen r _) hf).trans ?_
  rfl

theorem keyOk_ok {key : TypeId} {d : TypeDesc} {k : AV} {kv : Value} (hd : P.underlying key = some d) (hk : VR env ι k kv) (hok : keyOk P key d k = true) (e : Bool) (w : World) :
    (Instr.checkKey e 10000 key kv).run P w = .ok () w := by
  unfold keyOk at hok
  cases hp : plainKey d with
  | true => exact checkKey_ok hd hp e kv w
  | false =>
    rw [hp] at hok
    obtain ⟨h1, h2⟩ := bif'_true_of hok
    cases d <;> first | (cases h1; done) | skip
    rename_i fs
    have h3 : eqT P 40 key k k = some true := by
      unfold isTrue at h2
      split at h2
      · rename_i b hb; rw [hb, h2]
      · cases h2
    obtain ⟨dd, hdd, h4⟩ := obind_eq (f := fun d => match d with
      | .struct fs => match k, k with
        | .agg r, .agg q => bif' (P.stoodInHeld key) none (eqFields (eqT P 39) P r q fs.toList)
        | _, _ => none
      | _ => none) (x := P.underlying key) (b := true) (by
        rw [hd]
        have h5 : obind (P.underlying key) _ = some true := h3
        rw [hd] at h5
        exact h5)
    rw [hd] at hdd; cases hdd
    cases hk <;> first | (cases h4; done) | skip
    rename_i r xs hr
    rcases bif'_some h4 with ⟨_, h5⟩ | ⟨_, h5⟩
    case inl => cases h5
    have hall : ∀ f ∈ fs.toList, plainT P f.type = true := List.all_eq_true.1 h1
    have hf := checkFields (P := P) hr e 9998 w hall h5
    exact checkStruct hd hf

def findS (P : Program) (key : TypeId) (k : AV) (es : List AEnt) : Nat → Option (Option (Nat × AV)) :=
  List.rec (fun _ => some none) (fun e _ ih i => obind (eqT P 40 key k e.key) fun b => bif' b (some (some (i, e.val))) (ih (Nat.succ i))) es

theorem findS_ok {key : TypeId} {k : AV} {kv : Value} (hk : VR env ι k kv) (w : World) : ∀ {as : List AEnt} {es : List MapEntry} {i : Nat} {r : Option (Nat × AV)}, EsR env ι as es → findS P key k as i = some r →
    (r = none ∧ (Instr.findAsking key kv es i).run P w = .ok none w) ∨
    ∃ j v x a b, r = some (i + j, v) ∧ (Instr.findAsking key kv es i).run P w = .ok (some (i + j, x)) w ∧ VR env ι v x ∧ es[j]? = some a ∧ as[j]? = some b
  | _, _, i, r, .nil, hf => by cases hf; exact .inl ⟨rfl, rfl⟩
  | _, _, i, r, .cons a e as es he hr, hf => by
    obtain ⟨b, hb, h1⟩ := obind_eq (f := fun b => bif' b (some (some (i, a.val))) (findS P key k as (Nat.succ i))) hf
    have heq : (Op.equal key kv e.key).run P w = .ok b w := eqT_ok (d := 10000) (by omega) hk he.key hb w
    rcases bif'_some h1 with ⟨rfl, h2⟩ | ⟨rfl, h2⟩
    · cases h2
      exact .inr ⟨0, a.val, e.val, e, a, rfl, by simp [Instr.findAsking, heq], he.val, rfl, rfl⟩
    · rcases findS_ok hk w hr h2 with ⟨e1, e2⟩ | ⟨j, v, x, a', b', e1, e2, e3, e4, e5⟩
      · exact .inl ⟨e1, by simp [Instr.findAsking, heq, e2]⟩
      · refine .inr ⟨j + 1, v, x, a', b', ?_, ?_, e3, e4, e5⟩
        · rw [e1, Nat.succ_eq_add_one, Nat.add_assoc, Nat.add_comm 1 j]
        · simp only [Instr.findAsking, Sem.run_bind, heq, Result.andThen_ok, Bool.false_eq_true, if_false]
          have : i + 1 + j = i + (j + 1) := by omega
          rw [← this]; exact e2

def findG (P : Program) (key : TypeId) (d : TypeDesc) (k : AV) (es : List AEnt) : Option (Option (Nat × AV)) := bif' (plainKey d) (findA d k es 0) (findS P key k es 0)

theorem EsR.get : ∀ {as : List AEnt} {es : List MapEntry} {j : Nat} {a : MapEntry}, EsR env ι as es → es[j]? = some a → ∃ b, as[j]? = some b ∧ EntR env ι b a
  | _, _, j, a, .nil, h => by cases h
  | _, _, 0, a, .cons x e as es he hr, h => by cases h; exact ⟨x, rfl, he⟩
  | _, _, j + 1, a, .cons x e as es he hr, h => EsR.get (j := j) hr h

theorem findG_ok {key : TypeId} {d : TypeDesc} {k : AV} {kv : Value} (hd : P.underlying key = some d) (hk : VR env ι k kv) (hok : keyOk P key d k = true) {as : List AEnt} {es : List MapEntry} {r : Option (Nat × AV)}
    (he : EsR env ι as es) (hf : findG P key d k as = some r) (w : World) :
    (r = none ∧ (Instr.findKey key kv es).run P w = .ok none w) ∨
    ∃ j v x a b, r = some (j, v) ∧ (Instr.findKey key kv es).run P w = .ok (some (j, x)) w ∧ VR env ι v x ∧ es[j]? = some a ∧ as[j]? = some b ∧ EntR env ι b a := by
  rcases bif'_some hf with ⟨hp, h1⟩ | ⟨hp, h1⟩
  · rcases findA_ok hk he h1 with ⟨rfl, e2⟩ | ⟨j, v, y, a, rfl, e2, e3, e4, _, _⟩
    · exact .inl ⟨rfl, findKey_ok hd e2 w⟩
    · rw [Nat.zero_add] at e2
      obtain ⟨b, hb1, hb2⟩ := he.get e4
      exact .inr ⟨j, v, y, a, b, by rw [Nat.zero_add], findKey_ok hd e2 w, e3, e4, hb1, hb2⟩
  · have hnow : es ≠ [] → Instr.findNow d kv es 0 = none := by
      intro hne
      cases es with
      | nil => exact absurd rfl hne
      | cons e es =>
        have hns : Instr.sameNow d kv e.key = none := by
          unfold keyOk at hok
          rw [hp] at hok
          obtain ⟨h2, _⟩ := bif'_true_of hok
          cases d <;> first | (cases h2; done) | rfl
        simp [Instr.findNow, hns]
    have hrun : (Instr.findKey key kv es).run P w = (Instr.findAsking key kv es).run P w := by
      by_cases hne : es = []
      · subst hne; simp [Instr.findKey, run_underlying hd, Instr.findNow, Instr.findAsking]
      · simp [Instr.findKey, run_underlying hd, hnow hne]
    rcases findS_ok (P := P) hk w he h1 with ⟨rfl, e2⟩ | ⟨j, v, y, a, b, rfl, e2, e3, e4, e5⟩
    · exact .inl ⟨rfl, by rw [hrun]; exact e2⟩
    · rw [Nat.zero_add] at e2
      obtain ⟨b', hb1, hb2⟩ := he.get e4
      exact .inr ⟨j, v, y, a, b', by rw [Nat.zero_add], by rw [hrun]; exact e2, e3, e4, hb1, hb2⟩

/-- the entries of a map -/
def entsA (x : AV) (h : AHeap) : Option (List AEnt) :=
  match x with
  | .nilm => some []
  | .map b => obind (h.at b) fun o => match o with
    | .map es _ => some es
    | _ => none
  | _ => none

def lookupA (P : Program) (t : TypeId) (x k : AV) (ok : Bool) (h : AHeap) : Option AV :=
  obind (P.underlying t) fun d => match d with
  | .map key elem => obind (P.underlying key) fun kd => bif' (keyOk P key kd k) (obind (entsA x h) fun es => obind (findG P key kd k es) fun r =>
      match r with
      | some p => some (bif' ok (.tup [p.2, .bool true]) p.2)
      | none => obind (zeroOf P elem) fun z => some (bif' ok (.tup [z, .bool false]) z)) none
  | _ => none

theorem lookupA_ok (hr : HR env W ι h w) {t : TypeId} {x k u : AV} {xv kv : Value} {ok : Bool} (hx : VR env ι x xv) (hk : VR env ι k kv) (hl : lookupA P t x k ok h = some u) :
    Good P env W (Instr.lookup t xv kv ok) w ι u h := by
  obtain ⟨d, hd, h1⟩ := obind_eq hl
  cases d <;> first | (cases h1; done) | skip
  rename_i key elem
  obtain ⟨kd, hkd, h2⟩ := obind_eq h1
  rcases bif'_some h2 with ⟨hp, h3⟩ | ⟨_, h3⟩
  case inr => cases h3
  obtain ⟨as, has, h4⟩ := obind_eq h3
  obtain ⟨r, hf, h5⟩ := obind_eq h4
  have hes : ∃ es : Array MapEntry, EsR env ι as es.toList ∧ ((xv = .map none ∧ es = #[]) ∨ ∃ c clock, xv = .map (some c) ∧ w.heap[c]? = some (.map es clock)) := by
    cases hx <;> first | (cases has; done) | skip
    · cases has; exact ⟨#[], .nil, .inl ⟨rfl, rfl⟩⟩
    · rename_i b c s hc
      obtain ⟨o, ho, h6⟩ := obind_eq has
      cases o <;> first | (cases h6; done) | skip
      cases h6
      obtain ⟨es, a2, a3⟩ := hr.map ho hc
      have a1 := hc
      exact ⟨es, a3, .inr ⟨c, _, rfl, a2⟩⟩
  obtain ⟨es, he, hxs⟩ := hes
  rcases findG_ok hkd hk hp he hf w with ⟨rfl, e2⟩ | ⟨j, v, y, a, b, rfl, e2, e3, _, _, _⟩
  · obtain ⟨z, hz, h6⟩ := obind_eq h5
    obtain ⟨zv, hzv, hvz⟩ := run_zeroValue (env := env) hz w
    refine Good.same hr (x := if ok then .tuple #[zv, .bool false] else zv) ?_ ?_
    · rcases hxs with ⟨rfl, rfl⟩ | ⟨c, clock, rfl, hc⟩
      · simp only [Instr.lookup, Sem.run_bind, run_underlying hd, Result.andThen_ok, Sem.run_pure, keyOk_ok hkd hk hp, e2, hzv]
      · simp only [Instr.lookup, Sem.run_bind, run_underlying hd, Result.andThen_ok, Sem.run_pure, run_getObj_map hc, keyOk_ok hkd hk hp, e2, hzv]
    · cases h6
      cases ok
      · exact hvz ι
      · exact .tup _ _ (.cons _ _ _ _ (hvz ι) (.cons _ _ _ _ (.bool false) .nil))
  · refine Good.same hr (x := if ok then .tuple #[y, .bool true] else y) ?_ ?_
    · rcases hxs with ⟨rfl, rfl⟩ | ⟨c, clock, rfl, hc⟩
      · simp only [Instr.lookup, Sem.run_bind, run_underlying hd, Result.andThen_ok, Sem.run_pure, keyOk_ok hkd hk hp, e2]
      · simp only [Instr.lookup, Sem.run_bind, run_underlying hd, Result.andThen_ok, Sem.run_pure, run_getObj_map hc, keyOk_ok hkd hk hp, e2]
    · cases h5
      cases ok
      · exact e3
      · exact .tup _ _ (.cons _ _ _ _ e3 (.cons _ _ _ _ (.bool true) .nil))

/-- an entry's key and value are set -/
def setEnt (es : List AEnt) (k v : AV) : Nat → List AEnt :=
  List.rec (fun _ => []) (fun e es ih i => Nat.rec ({ key := k, val := v, born := e.born } :: es) (fun j _ => e :: ih j) i) es

def delEnt (es : List AEnt) : Nat → List AEnt :=
  List.rec (fun _ => []) (fun e es ih i => Nat.rec es (fun j _ => e :: ih j) i) es

theorem setEnt_ok {k v : AV} {kv x : Value} (hk : VR env ι k kv) (hv : VR env ι v x) : ∀ {as : List AEnt} {es : List MapEntry} (i : Nat), EsR env ι as es →
    EsR env ι (setEnt as k v i) (es.modify i fun e => { e with key := kv, val := x })
  | _, _, i, .nil => by cases i <;> exact .nil
  | _, _, 0, .cons a e as es he hr => by
    show EsR env ι ({ key := k, val := v, born := a.born } :: as) _
    rw [List.modify_zero_cons]
    exact .cons _ _ _ _ ⟨hk, hv, he.born⟩ hr
  | _, _, i + 1, .cons a e as es he hr => by
    rw [List.modify_succ_cons]
    exact .cons _ _ _ _ he (setEnt_ok hk hv i hr)

theorem delEnt_ok : ∀ {as : List AEnt} {es : List MapEntry} (i : Nat), EsR env ι as es → EsR env ι (delEnt as i) (es.eraseIdx i)
  | _, _, i, .nil => by cases i <;> exact .nil
  | _, _, 0, .cons a e as es he hr => hr
  | _, _, i + 1, .cons a e as es he hr => .cons _ _ _ _ he (delEnt_ok i hr)

def snoc (es : List AEnt) (e : AEnt) : List AEnt := List.rec [e] (fun x _ ih => x :: ih) es
theorem snoc_eq (es : List AEnt) (e : AEnt) : snoc es e = es ++ [e] := by
  induction es with
  | nil => rfl
  | cons x es ih => show x :: snoc es e = _; rw [ih]; rfl

theorem EsR.append : ∀ {as bs : List AEnt} {es fs : List MapEntry}, EsR env ι as es → EsR env ι bs fs → EsR env ι (as ++ bs) (es ++ fs)
  | _, _, _, _, .nil, h => h
  | _, _, _, _, .cons a e as es x y, h => .cons _ _ _ _ x (EsR.append y h)

def updateA (P : Program) (t : TypeId) (m k v : AV) (h : AHeap) : Option AHeap :=
  obind (P.underlying t) fun d => match d with
  | .map key _ => obind (P.underlying key) fun kd => bif' (keyOk P key kd k) (match m with
    | .map b => obind (h.at b) fun o => match o with
      | .map es clock => obind (findG P key kd k es) fun r => match r with
        | some p => obind es[p.1]? fun e => bif' (valSame e.key k) (some (h.put b (some (.map (setEnt es k v p.1) clock)))) none
        | none => forceN (Nat.succ clock) fun c => some (h.put b (some (.map (snoc es { key := k, val := v, born := clock }) c)))
      | _ => none
    | _ => none) none
  | _ => none

theorem run_setObj_map {w : World} {c clock : Nat} {es : Array MapEntry} (hw : w.heap[c]? = some (.map es clock)) (o : Obj) : (setObj c o).run P w = .ok () (putObj w c o) := by
  simp [setObj, Sem.run, hw, putObj]

theorem updateA_ok (hr : HR env W ι h w) {t : TypeId} {m k v : AV} {mv kv x : Value} (hm : VR env ι m mv) (hk : VR env ι k kv) (hv : VR env ι v x) (hu : updateA P t m k v h = some h') :
    ∃ w', (Instr.mapUpdate t mv kv x).run P w = .ok () w' ∧ HR env W ι h' w' := by
  obtain ⟨d, hd, h1⟩ := obind_eq hu
  cases d <;> first | (cases h1; done) | skip
  rename_i key elem
  obtain ⟨kd, hkd, h2⟩ := obind_eq h1
  rcases bif'_some h2 with ⟨hp, h3⟩ | ⟨_, h3⟩
  case inr => cases h3
  cases hm <;> first | (cases h3; done) | skip
  rename_i b c s hc
  obtain ⟨o, ho, h4⟩ := obind_eq h3
  cases o <;> first | (cases h4; done) | skip
  rename_i as clock
  obtain ⟨r, hf, h5⟩ := obind_eq h4
  obtain ⟨es, a2, a3⟩ := hr.map ho hc
  have a1 := hc
  rcases findG_ok hkd hk hp a3 hf w with ⟨rfl, e2⟩ | ⟨j, v', y, a, be, rfl, e2, e3, e4, e5, e6⟩
  · rw [forceN_eq] at h5; cases h5
    refine ⟨putObj w c (.map (es.push { key := kv, val := x, born := clock }) (clock + 1)), ?_, hr.set ho a1 ?_⟩
    · simp only [Instr.mapUpdate, Sem.run_bind, run_underlying hd, Result.andThen_ok, run_getObj_map a2, keyOk_ok hkd hk hp, e2, run_setObj_map a2]
    · rw [snoc_eq]
      have := OR.map (env := env) (ι := ι) (as ++ [{ key := k, val := v, born := clock }]) (clock + 1) (es.toList ++ [{ key := kv, val := x, born := clock }]) s (a3.append (.cons _ _ _ _ ⟨hk, hv, rfl⟩ .nil))
      have e : (es.toList ++ [({ key := kv, val := x, born := clock } : MapEntry)]).toArray = es.push { key := kv, val := x, born := clock } := by
        apply Array.ext'; simp
      rw [e] at this; exact this
  · obtain ⟨be', hbe, h6⟩ := obind_eq h5
    rw [e5] at hbe; cases hbe
    rcases bif'_some h6 with ⟨hvs, h7⟩ | ⟨_, h7⟩
    case inr => cases h7
    cases h7
    obtain ⟨e7, e8⟩ := valSame_ok e6.key hk hvs
    have hkey : ((es[j]?).map (·.key)).getD kv = a.key := by
      have : es[j]? = some a := by rw [← Array.getElem?_toList]; exact e4
      simp [this]
    refine ⟨putObj w c (.map (es.modify j fun e => { e with key := kv, val := x }) clock), ?_, hr.set ho a1 ?_⟩
    · simp only [Instr.mapUpdate, Sem.run_bind, run_underlying hd, Result.andThen_ok, run_getObj_map a2, keyOk_ok hkd hk hp, e2, hkey]
      simp only [Instr.keyThatStays, e8, if_true, Sem.run_pure, Result.andThen_ok, run_setObj_map a2]
    · have := OR.map (env := env) (ι := ι) (setEnt as k v j) clock _ s (setEnt_ok hk hv j a3)
      have e : ((es.toList).modify j fun e => { e with key := kv, val := x }).toArray = es.modify j fun e => { e with key := kv, val := x } := by
        apply Array.ext'; simp
      rw [e] at this; exact this

def deleteA (P : Program) (t : TypeId) (m k : AV) (h : AHeap) : Option AHeap :=
  obind (P.underlying t) fun d => match d with
  | .map key _ => obind (P.underlying key) fun kd => bif' (keyOk P key kd k) (match m with
    | .map b => obind (h.at b) fun o => match o with
      | .map es clock => obind (findG P key kd k es) fun r => match r with
        | some p => some (h.put b (some (.map (delEnt es p.1) clock)))
        | none => some h
      | _ => none
    | .nilm => some h
    | _ => none) none
  | _ => none

theorem deleteA_ok (hr : HR env W ι h w) {t kt ty : TypeId} {m k : AV} {mv kv : Value} (hm : VR env ι m mv) (hk : VR env ι k kv) (hu : deleteA P t m k h = some h') :
    ∃ w', (Builtin.delete_ #[t, kt] ty #[mv, kv]).run P w = .ok (.tuple #[]) w' ∧ HR env W ι h' w' := by
  obtain ⟨d, hd, h1⟩ := obind_eq hu
  cases d <;> first | (cases h1; done) | skip
  rename_i key elem
  obtain ⟨kd, hkd, h2⟩ := obind_eq h1
  rcases bif'_some h2 with ⟨hp, h3⟩ | ⟨_, h3⟩
  case inr => cases h3
  cases hm <;> first | (cases h3; done) | skip
  · cases h3
    exact ⟨w, by simp [Builtin.delete_, run_underlying hd, keyOk_ok hkd hk hp], hr⟩
  rename_i b c s hc
  obtain ⟨o, ho, h4⟩ := obind_eq h3
  cases o <;> first | (cases h4; done) | skip
  rename_i as clock
  obtain ⟨r, hf, h5⟩ := obind_eq h4
  obtain ⟨es, a2, a3⟩ := hr.map ho hc
  have a1 := hc
  rcases findG_ok hkd hk hp a3 hf w with ⟨rfl, e2⟩ | ⟨j, v', y, a, be, rfl, e2, e3, e4, e5, e6⟩
  · cases h5
    refine ⟨w, ?_, hr⟩
    simp only [Builtin.delete_, List.getElem?_toArray, List.getElem?_cons_zero, List.getElem?_cons_succ, Sem.run_bind, run_underlying hd, Result.andThen_ok, run_getObj_map a2, keyOk_ok hkd hk hp, e2, run_setObj_map a2, Sem.run_pure]
    rw [putObj_self w c _ a2]
  · cases h5
    refine ⟨putObj w c (.map (es.eraseIdxIfInBounds j) clock), ?_, hr.set ho a1 ?_⟩
    · simp only [Builtin.delete_, List.getElem?_toArray, List.getElem?_cons_zero, List.getElem?_cons_succ, Sem.run_bind, run_underlying hd, Result.andThen_ok, run_getObj_map a2, keyOk_ok hkd hk hp, e2, run_setObj_map a2, Sem.run_pure]
    · have := OR.map (env := env) (ι := ι) (delEnt as j) clock _ s (delEnt_ok j a3)
      have e : (es.toList.eraseIdx j).toArray = es.eraseIdxIfInBounds j := by
        apply Array.ext'
        have hj : j < es.size := by
          rcases Nat.lt_or_ge j es.size with h | h
          · exact h
          · rw [List.getElem?_eq_none (by simpa using h)] at e4; cases e4
        simp [Array.eraseIdxIfInBounds, hj]
      rw [e] at this; exact this

def clearS (P : Program) (elem : TypeId) (b off len : Nat) (h : AHeap) : Option AHeap :=
  bif' (Nat.beq len 0) (some h) (obind (zeroOf P elem) fun z => obind (vrow z) fun r => writeA h b off (rrep r len))

def clearA (P : Program) (t : TypeId) (x : AV) (h : AHeap) : Option AHeap :=
  obind (P.underlying t) fun d => match x with
  | .nilm => some h
  | .nils => some h
  | .map b => obind (h.at b) fun o => match o with
    | .map _ clock => some (h.put b (some (.map [] clock)))
    | _ => none
  | .slice b off len _ => match d with
    | .slice elem => clearS P elem b off len h
    | _ => none
  | .sliceu b off len _ => match d with
    | .slice elem => clearS P elem b off len h
    | _ => none
  | _ => none

theorem clearS_ok (hr : HR env W ι h w) {t elem ty : TypeId} {b off len cap c s : Nat} (hd : P.underlying t = some (.slice elem)) (hc : ι b = some (c, s)) (hu : clearS P elem b off len h = some h') :
    ∃ w', (Builtin.clear_ #[t] ty #[.slice (some ⟨c, off, none⟩) len cap]).run P w = .ok (.tuple #[]) w' ∧ HR env W ι h' w' := by
  rcases bif'_some hu with ⟨h0, h1⟩ | ⟨h0, h1⟩
  · cases h1
    have := beqT h0
    subst this
    exact ⟨w, by simp only [Builtin.clear_, List.getElem?_toArray, List.getElem?_cons_zero, Sem.run_bind, run_underlying hd, Result.andThen_ok, Sem.run_pure], hr⟩
  · obtain ⟨z, hz, h2⟩ := obind_eq h1
    obtain ⟨r, hrow, h3⟩ := obind_eq h2
    obtain ⟨zv, hzv, hvz⟩ := run_zeroValue (env := env) hz w
    have hcells : (Builtin.zeroCells zv.cells len).toList = (List.replicate len zv.cells.toList).flatten := zeros_list zv.cells len (len * zv.cells.size) rfl
    have hq : RR env ι (rrep r len) (Builtin.zeroCells zv.cells len).toList := by rw [hcells]; exact rrep_ok ((hvz ι).vrow hrow) len
    obtain ⟨w', hst, hr'⟩ := writeA_ok (P := P) hr hq hc h3
    refine ⟨w', ?_, hr'⟩
    obtain ⟨m, rfl⟩ : ∃ m, len = m + 1 := ⟨len - 1, by have := beqF h0; omega⟩
    simp only [Builtin.clear_, List.getElem?_toArray, List.getElem?_cons_zero, Sem.run_bind, run_underlying hd, Result.andThen_ok, Sem.run_pure, hzv, hst]

theorem clearA_ok (hr : HR env W ι h w) {t ty : TypeId} {x : AV} {xv : Value} (hx : VR env ι x xv) (hu : clearA P t x h = some h') :
    ∃ w', (Builtin.clear_ #[t] ty #[xv]).run P w = .ok (.tuple #[]) w' ∧ HR env W ι h' w' := by
  obtain ⟨d, hd, h1⟩ := obind_eq hu
  cases hx <;> first | (cases h1; done) | skip
  · cases h1
    exact ⟨w, by simp [Builtin.clear_, run_underlying hd], hr⟩
  · rename_i b off len cap c s hc
    cases d <;> first | (cases h1; done) | exact clearS_ok hr hd hc h1
  · rename_i b off len es c s cap hc _ _
    cases d <;> first | (cases h1; done) | exact clearS_ok hr hd hc h1
  · cases h1
    exact ⟨w, by simp [Builtin.clear_, run_underlying hd], hr⟩
  rename_i b c s hc
  obtain ⟨o, ho, h4⟩ := obind_eq h1
  cases o <;> first | (cases h4; done) | skip
  rename_i as clock
  cases h4
  obtain ⟨es, a2, a3⟩ := hr.map ho hc
  have a1 := hc
  exact ⟨_, by simp [Builtin.clear_, run_underlying hd, run_getObj_map a2, run_setObj_map a2], hr.set ho a1 (.map [] clock [] s .nil)⟩

def makeMapA (h : AHeap) : Option (AV × AHeap) := forceN h.next fun b => some (.map b, h.new (.map [] 0))

theorem makeMapA_ok (hr : HR env W ι h w) {t : TypeId} {u : AV} (hm : makeMapA h = some (u, h')) : Good P env W (Instr.makeMap t none) w ι u h' := by
  rw [makeMapA, forceN_eq] at hm; cases hm
  refine ⟨ι.add h.next (w.heap.size, 0), { w with heap := w.heap.push (.map #[] 0) }, .map (some w.heap.size), ?_, hr.ext_new _, ?_, ?_⟩
  · simp [Instr.makeMap]
  · exact .map _ _ 0 (by simp [Inj.add])
  · exact hr.new (.map [] 0 [] 0 .nil)


end
end Go.Ab
