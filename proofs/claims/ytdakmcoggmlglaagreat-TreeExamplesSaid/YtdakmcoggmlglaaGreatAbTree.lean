/- Wide trees: rows of sixteen, two deep for temporaries, four deep for blocks; what is beyond lies in a tree of halvings. -/
import Derived.Test.YtdakmcoggmlglaaGreatAbVal
set_option linter.all false
set_option linter.unusedVariables false
namespace Go.Ab
noncomputable section

variable {α β : Type}

structure W16 (α : Type) where
  (a0 a1 a2 a3 a4 a5 a6 a7 a8 a9 a10 a11 a12 a13 a14 a15 : α)

/-- a look at a place -/
structure Sel (α : Type) where
  run : W16 α → α
/-- a place is filled -/
structure Upd (α β : Type) where
  run : α → W16 α → (W16 α → β) → β

def Sel.go (s : Sel α) (t : W16 α) : α := Sel.rec (motive := fun _ => W16 α → α) (fun f t => f t) s t
def Upd.go (u : Upd α β) (v : α) (t : W16 α) (k : W16 α → β) : β := Upd.rec (motive := fun _ => α → W16 α → (W16 α → β) → β) (fun f v t k => f v t k) u v t k

def fill (a : α) : W16 α := ⟨a, a, a, a, a, a, a, a, a, a, a, a, a, a, a, a⟩

def s0 : Sel α := ⟨fun t => t.a0⟩
def u0 : Upd α β := ⟨fun v t k => W16.rec (motive := fun _ => α → (W16 α → β) → β) (fun a0 a1 a2 a3 a4 a5 a6 a7 a8 a9 a10 a11 a12 a13 a14 a15 v k => k ⟨v, a1, a2, a3, a4, a5, a6, a7, a8, a9, a10, a11, a12, a13, a14, a15⟩) t v k⟩
def s1 : Sel α := ⟨fun t => t.a1⟩
def u1 : Upd α β := ⟨fun v t k => W16.rec (motive := fun _ => α → (W16 α → β) → β) (fun a0 a1 a2 a3 a4 a5 a6 a7 a8 a9 a10 a11 a12 a13 a14 a15 v k => k ⟨a0, v, a2, a3, a4, a5, a6, a7, a8, a9, a10, a11, a12, a13, a14, a15⟩) t v k⟩
def s2 : Sel α := ⟨fun t => t.a2⟩
def u2 : Upd α β := ⟨fun v t k => W16.rec (motive := fun _ => α → (W16 α → β) → β) (fun a0 a1 a2 a3 a4 a5 a6 a7 a8 a9 a10 a11 a12 a13 a14 a15 v k => k ⟨a0, a1, v, a3, a4, a5, a6, a7, a8, a9, a10, a11, a12, a13, a14, a15⟩) t v k⟩
def s3 : Sel α := ⟨fun t => t.a3⟩
def u3 : Upd α β := ⟨fun v t k => W16.rec (motive := fun _ => α → (W16 α → β) → β) (fun a0 a1 a2 a3 a4 a5 a6 a7 a8 a9 a10 a11 a12 a13 a14 a15 v k => k ⟨a0, a1, a2, v, a4, a5, a6, a7, a8, a9, a10, a11, a12, a13, a14, a15⟩) t v k⟩
def s4 : Sel α := ⟨fun t => t.a4⟩
def u4 : Upd α β := ⟨fun v t k => W16.rec (motive := fun _ => α → (W16 α → β) → β) (fun a0 a1 a2 a3 a4 a5 a6 a7 a8 a9 a10 a11 a12 a13 a14 a15 v k => k ⟨a0, a1, a2, a3, v, a5, a6, a7, a8, a9, a10, a11, a12, a13, a14, a15⟩) t v k⟩
def s5 : Sel α := ⟨fun t => t.a5⟩
def u5 : Upd α β := ⟨fun v t k => W16.rec (motive := fun _ => α → (W16 α → β) → β) (fun a0 a1 a2 a3 a4 a5 a6 a7 a8 a9 a10 a11 a12 a13 a14 a15 v k => k ⟨a0, a1, a2, a3, a4, v, a6, a7, a8, a9, a10, a11, a12, a13, a14, a15⟩) t v k⟩
def s6 : Sel α := ⟨fun t => t.a6⟩
def u6 : Upd α β := ⟨fun v t k => W16.rec (motive := fun _ => α → (W16 α → β) → β) (fun a0 a1 a2 a3 a4 a5 a6 a7 a8 a9 a10 a11 a12 a13 a14 a15 v k => k ⟨a0, a1, a2, a3, a4, a5, v, a7, a8, a9, a10, a11, a12, a13, a14, a15⟩) t v k⟩
def s7 : Sel α := ⟨fun t => t.a7⟩
def u7 : Upd α β := ⟨fun v t k => W16.rec (motive := fun _ => α → (W16 α → β) → β) (fun a0 a1 a2 a3 a4 a5 a6 a7 a8 a9 a10 a11 a12 a13 a14 a15 v k => k ⟨a0, a1, a2, a3, a4, a5, a6, v, a8, a9, a10, a11, a12, a13, a14, a15⟩) t v k⟩
def s8 : Sel α := ⟨fun t => t.a8⟩
def u8 : Upd α β := ⟨fun v t k => W16.rec (motive := fun _ => α → (W16 α → β) → β) (fun a0 a1 a2 a3 a4 a5 a6 a7 a8 a9 a10 a11 a12 a13 a14 a15 v k => k ⟨a0, a1, a2, a3, a4, a5, a6, a7, v, a9, a10, a11, a12, a13, a14, a15⟩) t v k⟩
def s9 : Sel α := ⟨fun t => t.a9⟩
def u9 : Upd α β := ⟨fun v t k => W16.rec (motive := fun _ => α → (W16 α → β) → β) (fun a0 a1 a2 a3 a4 a5 a6 a7 a8 a9 a10 a11 a12 a13 a14 a15 v k => k ⟨a0, a1, a2, a3, a4, a5, a6, a7, a8, v, a10, a11, a12, a13, a14, a15⟩) t v k⟩
def s10 : Sel α := ⟨fun t => t.a10⟩
def u10 : Upd α β := ⟨fun v t k => W16.rec (motive := fun _ => α → (W16 α → β) → β) (fun a0 a1 a2 a3 a4 a5 a6 a7 a8 a9 a10 a11 a12 a13 a14 a15 v k => k ⟨a0, a1, a2, a3, a4, a5, a6, a7, a8, a9, v, a11, a12, a13, a14, a15⟩) t v k⟩
def s11 : Sel α := ⟨fun t => t.a11⟩
def u11 : Upd α β := ⟨fun v t k => W16.rec (motive := fun _ => α → (W16 α → β) → β) (fun a0 a1 a2 a3 a4 a5 a6 a7 a8 a9 a10 a11 a12 a13 a14 a15 v k => k ⟨a0, a1, a2, a3, a4, a5, a6, a7, a8, a9, a10, v, a12, a13, a14, a15⟩) t v k⟩
def s12 : Sel α := ⟨fun t => t.a12⟩
def u12 : Upd α β := ⟨fun v t k => W16.rec (motive := fun _ => α → (W16 α → β) → β) (fun a0 a1 a2 a3 a4 a5 a6 a7 a8 a9 a10 a11 a12 a13 a14 a15 v k => k ⟨a0, a1, a2, a3, a4, a5, a6, a7, a8, a9, a10, a11, v, a13, a14, a15⟩) t v k⟩
def s13 : Sel α := ⟨fun t => t.a13⟩
def u13 : Upd α β := ⟨fun v t k => W16.rec (motive := fun _ => α → (W16 α → β) → β) (fun a0 a1 a2 a3 a4 a5 a6 a7 a8 a9 a10 a11 a12 a13 a14 a15 v k => k ⟨a0, a1, a2, a3, a4, a5, a6, a7, a8, a9, a10, a11, a12, v, a14, a15⟩) t v k⟩
def s14 : Sel α := ⟨fun t => t.a14⟩
def u14 : Upd α β := ⟨fun v t k => W16.rec (motive := fun _ => α → (W16 α → β) → β) (fun a0 a1 a2 a3 a4 a5 a6 a7 a8 a9 a10 a11 a12 a13 a14 a15 v k => k ⟨a0, a1, a2, a3, a4, a5, a6, a7, a8, a9, a10, a11, a12, a13, v, a15⟩) t v k⟩
def s15 : Sel α := ⟨fun t => t.a15⟩
def u15 : Upd α β := ⟨fun v t k => W16.rec (motive := fun _ => α → (W16 α → β) → β) (fun a0 a1 a2 a3 a4 a5 a6 a7 a8 a9 a10 a11 a12 a13 a14 a15 v k => k ⟨a0, a1, a2, a3, a4, a5, a6, a7, a8, a9, a10, a11, a12, a13, a14, v⟩) t v k⟩
def selN (n : Nat) : Sel α := Nat.rec s0 (fun n _ => Nat.rec s1 (fun n _ => Nat.rec s2 (fun n _ => Nat.rec s3 (fun n _ => Nat.rec s4 (fun n _ => Nat.rec s5 (fun n _ => Nat.rec s6 (fun n _ => Nat.rec s7 (fun n _ => Nat.rec s8 (fun n _ => Nat.rec s9 (fun n _ => Nat.rec s10 (fun n _ => Nat.rec s11 (fun n _ => Nat.rec s12 (fun n _ => Nat.rec s13 (fun n _ => Nat.rec s14 (fun n _ => s15) n) n) n) n) n) n) n) n) n) n) n) n) n) n) n
def updN (n : Nat) : Upd α β := Nat.rec u0 (fun n _ => Nat.rec u1 (fun n _ => Nat.rec u2 (fun n _ => Nat.rec u3 (fun n _ => Nat.rec u4 (fun n _ => Nat.rec u5 (fun n _ => Nat.rec u6 (fun n _ => Nat.rec u7 (fun n _ => Nat.rec u8 (fun n _ => Nat.rec u9 (fun n _ => Nat.rec u10 (fun n _ => Nat.rec u11 (fun n _ => Nat.rec u12 (fun n _ => Nat.rec u13 (fun n _ => Nat.rec u14 (fun n _ => u15) n) n) n) n) n) n) n) n) n) n) n) n) n) n) n

def W16.set (t : W16 α) (n : Nat) (v : α) : W16 α := (updN n).go v t fun t => t

theorem ble_false {a b : Nat} (h : ¬ a ≤ b) : Nat.ble a b = false := by
  cases e : Nat.ble a b
  · rfl
  · exact absurd (Nat.le_of_ble_eq_true e) h

theorem digit (n : Nat) (h : n < 16) : n = 0 ∨ n = 1 ∨ n = 2 ∨ n = 3 ∨ n = 4 ∨ n = 5 ∨ n = 6 ∨ n = 7 ∨ n = 8 ∨ n = 9 ∨ n = 10 ∨ n = 11 ∨ n = 12 ∨ n = 13 ∨ n = 14 ∨ n = 15 := by omega

theorem sel_fill (n : Nat) (h : n < 16) (a : α) : (selN n).go (fill a) = a := by
  rcases digit n h with rfl | rfl | rfl | rfl | rfl | rfl | rfl | rfl | rfl | rfl | rfl | rfl | rfl | rfl | rfl | rfl <;> rfl

theorem upd_go (n : Nat) (h : n < 16) (v : α) (t : W16 α) (k : W16 α → β) : (updN n).go v t k = k (t.set n v) := by
  cases t
  rcases digit n h with rfl | rfl | rfl | rfl | rfl | rfl | rfl | rfl | rfl | rfl | rfl | rfl | rfl | rfl | rfl | rfl <;> rfl

theorem sel_set (n m : Nat) (hn : n < 16) (hm : m < 16) (v : α) (t : W16 α) : (selN m).go (t.set n v) = if m = n then v else (selN m).go t := by
  cases t
  rcases digit n hn with rfl | rfl | rfl | rfl | rfl | rfl | rfl | rfl | rfl | rfl | rfl | rfl | rfl | rfl | rfl | rfl <;> rcases digit m hm with rfl | rfl | rfl | rfl | rfl | rfl | rfl | rfl | rfl | rfl | rfl | rfl | rfl | rfl | rfl | rfl <;> rfl

def low (n : Nat) : Nat := Nat.mod n 16
def high (n : Nat) : Nat := Nat.div n 16
theorem low_lt (n : Nat) : low n < 16 := Nat.mod_lt _ (by omega)
theorem high_lt {n k : Nat} (h : n < 16 * k) : high n < k := by
  have : high n = n / 16 := rfl
  omega
theorem digits {n m : Nat} (hl : low m = low n) (hh : high m = high n) : m = n := by
  have e1 : low m = m % 16 := rfl
  have e2 : low n = n % 16 := rfl
  have e3 : high m = m / 16 := rfl
  have e4 : high n = n / 16 := rfl
  omega

/-! two deep -/

structure TT (α : Type) where
  lo : W16 (W16 (Option α))
  hi : T α

structure TGet (α : Type) where
  run : TT α → Option α
structure TPut (α β : Type) where
  run : Option α → TT α → (TT α → β) → β

def TT.empty : TT α := ⟨fill (fill none), .leaf⟩

def getLo (f : Sel (W16 (Option α))) (g : Sel (Option α)) : TGet α :=
  Sel.rec (fun f => Sel.rec (fun g => ⟨fun t => g (f t.lo)⟩) g) f
def getB (n : Nat) : TGet α := Bool.rec ⟨fun t => T.get (posOf n) t.hi⟩ (getLo (selN (high n)) (selN (low n))) (Nat.ble n 255)
def TGet.go (g : TGet α) (t : TT α) : Option α := TGet.rec (motive := fun _ => TT α → Option α) (fun f t => f t) g t

def putLo (f : Sel (W16 (Option α))) (u : Upd (W16 (Option α)) β) (g : Upd (Option α) β) : TPut α β :=
  Sel.rec (fun f => Upd.rec (fun u => Upd.rec (fun g => ⟨fun v t k => TT.rec (motive := fun _ => Option α → (TT α → β) → β) (fun lo hi v k => g v (f lo) fun r => u r lo fun l => k ⟨l, hi⟩) t v k⟩) g) u) f
def putB (n : Nat) : TPut α β :=
  Bool.rec ⟨fun v t k => TT.rec (motive := fun _ => Option α → (TT α → β) → β) (fun lo hi v k => k ⟨lo, T.set (posOf n) v hi⟩) t v k⟩ (putLo (selN (high n)) (updN (high n)) (updN (low n))) (Nat.ble n 255)
def TPut.go (g : TPut α β) (v : Option α) (t : TT α) (k : TT α → β) : β := TPut.rec (motive := fun _ => Option α → TT α → (TT α → β) → β) (fun f v t k => f v t k) g v t k

def TT.at (t : TT α) (n : Nat) : Option α := (getB n).go t
def TT.put (t : TT α) (n : Nat) (x : Option α) : TT α := (putB n).go x t fun t => t

theorem getB_lo (n : Nat) (h : n ≤ 255) (t : TT α) : (getB n).go t = (selN (low n)).go ((selN (high n)).go t.lo) := by
  have e : Nat.ble n 255 = true := by simpa using h
  show TGet.go (Bool.rec _ _ (Nat.ble n 255)) t = _
  rw [e]; rfl
theorem getB_hi (n : Nat) (h : ¬ n ≤ 255) (t : TT α) : (getB n).go t = T.get (posOf n) t.hi := by
  have e : Nat.ble n 255 = false := ble_false h
  show TGet.go (Bool.rec _ _ (Nat.ble n 255)) t = _
  rw [e]; rfl
theorem putB_lo (n : Nat) (h : n ≤ 255) (v : Option α) (t : TT α) (k : TT α → β) :
    (putB n).go v t k = k ⟨t.lo.set (high n) (((selN (high n)).go t.lo).set (low n) v), t.hi⟩ := by
  have e : Nat.ble n 255 = true := by simpa using h
  show TPut.go (Bool.rec _ _ (Nat.ble n 255)) v t k = _
  rw [e]
  obtain ⟨lo, hi⟩ := t
  show (updN (low n)).go v ((selN (high n)).go lo) (fun r => (updN (high n)).go r lo fun l => k ⟨l, hi⟩) = _
  rw [upd_go _ (low_lt n), upd_go _ (high_lt (by omega))]
theorem putB_hi (n : Nat) (h : ¬ n ≤ 255) (v : Option α) (t : TT α) (k : TT α → β) : (putB n).go v t k = k ⟨t.lo, T.set (posOf n) v t.hi⟩ := by
  have e : Nat.ble n 255 = false := ble_false h
  show TPut.go (Bool.rec _ _ (Nat.ble n 255)) v t k = _
  rw [e]; rfl

theorem putB_go (n : Nat) (v : Option α) (t : TT α) (k : TT α → β) : (putB n).go v t k = k (t.put n v) := by
  by_cases h : n ≤ 255
  · rw [putB_lo n h, TT.put, putB_lo n h]
  · rw [putB_hi n h, TT.put, putB_hi n h]

theorem TT.at_put_eq (t : TT α) (n m : Nat) (x : Option α) : (t.put n x).at m = if m = n then x else t.at m := by
  simp only [TT.put, TT.at]
  by_cases h : n ≤ 255 <;> by_cases h' : m ≤ 255
  · rw [putB_lo n h, getB_lo m h', getB_lo m h']
    show (selN (low m)).go ((selN (high m)).go (t.lo.set (high n) _)) = _
    rw [sel_set _ _ (high_lt (by omega)) (high_lt (by omega))]
    by_cases e : high m = high n
    · rw [if_pos e, sel_set _ _ (low_lt n) (low_lt m), e]
      by_cases e2 : low m = low n
      · rw [if_pos e2, if_pos (digits e2 e)]
      · rw [if_neg e2, if_neg (fun h => e2 (by rw [h]))]
    · rw [if_neg e, if_neg (fun h => e (by rw [h]))]
  · rw [putB_lo n h, getB_hi m h', getB_hi m h', if_neg (by omega)]
  · rw [putB_hi n h, getB_lo m h', getB_lo m h', if_neg (by omega)]
  · rw [putB_hi n h, getB_hi m h', getB_hi m h']
    by_cases e : m = n
    · subst e; rw [if_pos rfl]; exact T.get_set _ _ _
    · rw [if_neg e]; exact T.get_set_ne _ _ _ _ fun h => e (posOf_inj h)

theorem TT.at_put (t : TT α) (n : Nat) (x : Option α) : (t.put n x).at n = x := by rw [TT.at_put_eq, if_pos rfl]
theorem TT.at_put_ne (t : TT α) (n m : Nat) (x : Option α) (h : m ≠ n) : (t.put n x).at m = t.at m := by rw [TT.at_put_eq, if_neg h]
theorem TT.at_empty (n : Nat) : (TT.empty : TT α).at n = none := by
  simp only [TT.at]
  by_cases h : n ≤ 255
  · rw [getB_lo n h]
    show (selN (low n)).go ((selN (high n)).go (fill (fill none))) = none
    rw [sel_fill _ (high_lt (by omega)), sel_fill _ (low_lt n)]
  · rw [getB_hi n h]; exact T.get_leaf _

/-! four deep; the last row of sixteen may be wanting -/

structure HH (α : Type) where
  lo : W16 (W16 (W16 (Option (W16 (Option α)))))
  hi : T α

structure HGet (α : Type) where
  run : HH α → Option α
structure HPut (α : Type) where
  run : Option α → HH α → HH α

def HH.empty : HH α := ⟨fill (fill (fill none)), .leaf⟩

def leafOf (x : Option (W16 (Option α))) : W16 (Option α) := Option.rec (fill none) (fun w => w) x

def hgetLo (a : Sel (W16 (W16 (Option (W16 (Option α)))))) (b : Sel (W16 (Option (W16 (Option α))))) (f : Sel (Option (W16 (Option α)))) (g : Sel (Option α)) : HGet α :=
  Sel.rec (fun a => Sel.rec (fun b => Sel.rec (fun f => Sel.rec (fun g => ⟨fun t => Option.rec none g (f (b (a t.lo)))⟩) g) f) b) a
def hgetB (n : Nat) : HGet α :=
  Bool.rec ⟨fun t => T.get (posOf n) t.hi⟩ (hgetLo (selN (high (high (high n)))) (selN (low (high (high n)))) (selN (low (high n))) (selN (low n))) (Nat.ble n 65535)
def HGet.go (g : HGet α) (t : HH α) : Option α := HGet.rec (motive := fun _ => HH α → Option α) (fun f t => f t) g t

def hputLo (a : Sel (W16 (W16 (Option (W16 (Option α)))))) (b : Sel (W16 (Option (W16 (Option α))))) (f : Sel (Option (W16 (Option α))))
    (ua : Upd (W16 (W16 (Option (W16 (Option α))))) (HH α)) (ub : Upd (W16 (Option (W16 (Option α)))) (HH α)) (uf : Upd (Option (W16 (Option α))) (HH α)) (ug : Upd (Option α) (HH α)) : HPut α :=
  Sel.rec (fun a => Sel.rec (fun b => Sel.rec (fun f => Upd.rec (fun ua => Upd.rec (fun ub => Upd.rec (fun uf => Upd.rec (fun ug =>
    ⟨fun v t => HH.rec (motive := fun _ => Option α → HH α) (fun lo hi v => ug v (leafOf (f (b (a lo)))) fun w => uf (some w) (b (a lo)) fun x => ub x (a lo) fun y => ua y lo fun z => ⟨z, hi⟩) t v⟩) ug) uf) ub) ua) f) b) a
def hputB (n : Nat) : HPut α :=
  Bool.rec ⟨fun v t => HH.rec (motive := fun _ => Option α → HH α) (fun lo hi v => ⟨lo, T.set (posOf n) v hi⟩) t v⟩
    (hputLo (selN (high (high (high n)))) (selN (low (high (high n)))) (selN (low (high n))) (updN (high (high (high n)))) (updN (low (high (high n)))) (updN (low (high n))) (updN (low n))) (Nat.ble n 65535)
def HPut.go (g : HPut α) (v : Option α) (t : HH α) : HH α := HPut.rec (motive := fun _ => Option α → HH α → HH α) (fun f v t => f v t) g v t

def HH.at (t : HH α) (n : Nat) : Option α := (hgetB n).go t
def HH.put (t : HH α) (n : Nat) (x : Option α) : HH α := (hputB n).go x t

/-- the row of sixteen of the number i -/
def HH.leaf (t : HH α) (i : Nat) : Option (W16 (Option α)) := (selN (low i)).go ((selN (low (high i))).go ((selN (high (high i))).go t.lo))

theorem hgetB_lo (n : Nat) (h : n ≤ 65535) (t : HH α) : (hgetB n).go t = Option.rec none (selN (low n)).go (t.leaf (high n)) := by
  have e : Nat.ble n 65535 = true := by simpa using h
  show HGet.go (Bool.rec _ _ (Nat.ble n 65535)) t = _
  rw [e]; rfl
theorem hgetB_hi (n : Nat) (h : ¬ n ≤ 65535) (t : HH α) : (hgetB n).go t = T.get (posOf n) t.hi := by
  have e : Nat.ble n 65535 = false := ble_false h
  show HGet.go (Bool.rec _ _ (Nat.ble n 65535)) t = _
  rw [e]; rfl
theorem hputB_lo (n : Nat) (h : n ≤ 65535) (v : Option α) (t : HH α) :
    (hputB n).go v t = ⟨t.lo.set (high (high (high n))) (((selN (high (high (high n)))).go t.lo).set (low (high (high n))) (((selN (low (high (high n)))).go ((selN (high (high (high n)))).go t.lo)).set (low (high n))
      (some ((leafOf (t.leaf (high n))).set (low n) v)))), t.hi⟩ := by
  have e : Nat.ble n 65535 = true := by simpa using h
  show HPut.go (Bool.rec _ _ (Nat.ble n 65535)) v t = _
  rw [e]
  obtain ⟨lo, hi⟩ := t
  show (updN (low n)).go v (leafOf ((selN (low (high n))).go ((selN (low (high (high n)))).go ((selN (high (high (high n)))).go lo)))) (fun w => (updN (low (high n))).go (some w) ((selN (low (high (high n)))).go ((selN (high (high (high n)))).go lo))
    fun x => (updN (low (high (high n)))).go x ((selN (high (high (high n)))).go lo) fun y => (updN (high (high (high n)))).go y lo fun z => (⟨z, hi⟩ : HH α)) = _
  have h3 : high (high (high n)) < 16 := high_lt (high_lt (high_lt (by omega)))
  rw [upd_go _ (low_lt _), upd_go _ (low_lt _), upd_go _ (low_lt _), upd_go _ h3]
  rfl
theorem hputB_hi (n : Nat) (h : ¬ n ≤ 65535) (v : Option α) (t : HH α) : (hputB n).go v t = ⟨t.lo, T.set (posOf n) v t.hi⟩ := by
  have e : Nat.ble n 65535 = false := ble_false h
  show HPut.go (Bool.rec _ _ (Nat.ble n 65535)) v t = _
  rw [e]; rfl

theorem leaf_put (n : Nat) (h : n ≤ 65535) (v : Option α) (t : HH α) (i : Nat) (hi : i ≤ 4095) :
    ((hputB n).go v t).leaf i = if i = high n then some ((leafOf (t.leaf (high n))).set (low n) v) else t.leaf i := by
  have h3 : high (high (high n)) < 16 := high_lt (high_lt (high_lt (by omega)))
  have h4 : high (high i) < 16 := high_lt (high_lt (by omega))
  rw [hputB_lo n h]
  show (selN (low i)).go ((selN (low (high i))).go ((selN (high (high i))).go (t.lo.set (high (high (high n))) _))) = _
  rw [sel_set _ _ h3 h4]
  by_cases e3 : high (high i) = high (high (high n))
  · rw [if_pos e3, sel_set _ _ (low_lt _) (low_lt _)]
    by_cases e2 : low (high i) = low (high (high n))
    · rw [if_pos e2, sel_set _ _ (low_lt _) (low_lt _)]
      by_cases e1 : low i = low (high n)
      · rw [if_pos e1, if_pos (digits e1 (digits e2 e3))]
      · rw [if_neg e1, if_neg (fun e => e1 (by rw [e])), ← e2, ← e3]; rfl
    · rw [if_neg e2, if_neg (fun e => e2 (by rw [e])), ← e3]; rfl
  · rw [if_neg e3, if_neg (fun e => e3 (by rw [e]))]; rfl

theorem high_le {n : Nat} (h : n ≤ 65535) : high n ≤ 4095 := by
  have : high n = n / 16 := rfl
  omega

theorem HH.at_put_eq (t : HH α) (n m : Nat) (x : Option α) : (t.put n x).at m = if m = n then x else t.at m := by
  simp only [HH.put, HH.at]
  by_cases h : n ≤ 65535 <;> by_cases h' : m ≤ 65535
  · rw [hgetB_lo m h', hgetB_lo m h', leaf_put n h x t _ (high_le h')]
    by_cases e : high m = high n
    · rw [if_pos e]
      show (selN (low m)).go ((leafOf (t.leaf (high n))).set (low n) x) = _
      rw [sel_set _ _ (low_lt n) (low_lt m)]
      by_cases e2 : low m = low n
      · rw [if_pos e2, if_pos (digits e2 e)]
      · rw [if_neg e2, if_neg (fun h => e2 (by rw [h])), e]
        cases t.leaf (high n) with
        | none => exact sel_fill _ (low_lt m) _
        | some w => rfl
    · rw [if_neg e, if_neg (fun h => e (by rw [h]))]
  · rw [hputB_lo n h, hgetB_hi m h', hgetB_hi m h', if_neg (by omega)]
  · rw [hputB_hi n h, hgetB_lo m h', hgetB_lo m h', if_neg (by omega)]; rfl
  · rw [hputB_hi n h, hgetB_hi m h', hgetB_hi m h']
    by_cases e : m = n
    · subst e; rw [if_pos rfl]; exact T.get_set _ _ _
    · rw [if_neg e]; exact T.get_set_ne _ _ _ _ fun h => e (posOf_inj h)
theorem HH.leaf_empty (i : Nat) (hi : i ≤ 4095) : (HH.empty : HH α).leaf i = none := by
  show (selN (low i)).go ((selN (low (high i))).go ((selN (high (high i))).go (fill (fill (fill none))))) = none
  rw [sel_fill _ (high_lt (high_lt (by omega))), sel_fill _ (low_lt _), sel_fill _ (low_lt _)]
theorem HH.at_empty (n : Nat) : (HH.empty : HH α).at n = none := by
  simp only [HH.at]
  by_cases h : n ≤ 65535
  · rw [hgetB_lo n h, HH.leaf_empty _ (high_le h)]
  · rw [hgetB_hi n h]; exact T.get_leaf _

end
end Go.Ab
