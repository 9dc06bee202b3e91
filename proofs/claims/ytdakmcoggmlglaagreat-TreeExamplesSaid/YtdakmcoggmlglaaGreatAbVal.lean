/- Abstract values, rows of cells, trees, and how they stand for Go's own. -/
import Derived.Calls
import Derived.Laws.Sem
import Derived.Laws.Cells
set_option linter.all false
namespace Go.Ab
noncomputable section

/-- a place in a tree -/
inductive Pos where
  | H
  | O (p : Pos)
  | I (p : Pos)

def Pos.num : Pos → Nat
  | .H => 0
  | .O p => 2 * p.num + 1
  | .I p => 2 * p.num + 2

/-- the place of a number (k: as many halvings as may be needed) -/
def posF (k : Nat) : Nat → Pos :=
  Nat.rec (fun _ => .H) (fun _ ih n =>
    Nat.rec .H (fun m _ => Bool.rec (.O (ih (Nat.div m 2))) (.I (ih (Nat.div m 2))) (Nat.beq (Nat.mod m 2) 1)) n) k

theorem posF_num (k : Nat) : ∀ n, n ≤ k → (posF k n).num = n := by
  induction k with
  | zero => intro n hn; have : n = 0 := by omega
            subst this; rfl
  | succ k ih =>
    intro n hn
    cases n with
    | zero => rfl
    | succ m =>
      show (Bool.rec (Pos.O (posF k (Nat.div m 2))) (Pos.I (posF k (Nat.div m 2))) (Nat.beq (Nat.mod m 2) 1) : Pos).num = m + 1
      have hd : (posF k (Nat.div m 2)).num = m / 2 := ih (m / 2) (by omega)
      cases hb : Nat.beq (Nat.mod m 2) 1 with
      | false =>
        have : m % 2 ≠ 1 := fun h => by
          have : Nat.beq (m % 2) 1 = true := by rw [h]; rfl
          rw [show Nat.beq (m % 2) 1 = Nat.beq (Nat.mod m 2) 1 from rfl, hb] at this; cases this
        simp only [Pos.num, hd]; omega
      | true =>
        have : m % 2 = 1 := Nat.eq_of_beq_eq_true hb
        simp only [Pos.num, hd]; omega

def posOf (n : Nat) : Pos := posF n n

theorem posOf_num (n : Nat) : (posOf n).num = n := posF_num n n (Nat.le_refl n)

theorem posOf_inj {a b : Nat} (h : posOf a = posOf b) : a = b := by rw [← posOf_num a, h, posOf_num]

/-- a tree -/
inductive T (α : Type) where
  | leaf
  | node (l : T α) (v : Option α) (r : T α)

variable {α : Type}

def T.get (p : Pos) : T α → Option α :=
  Pos.rec (fun t => T.rec none (fun _ v _ _ _ => v) t) (fun _ ih t => T.rec none (fun l _ _ _ _ => ih l) t) (fun _ ih t => T.rec none (fun _ _ r _ _ => ih r) t) p

def T.set (p : Pos) (x : Option α) : T α → T α :=
  Pos.rec (fun t => T.rec (.node .leaf x .leaf) (fun l _ r _ _ => .node l x r) t)
    (fun _ ih t => T.rec (.node (ih .leaf) none .leaf) (fun l v r _ _ => .node (ih l) v r) t)
    (fun _ ih t => T.rec (.node .leaf none (ih .leaf)) (fun l v r _ _ => .node l v (ih r)) t) p

theorem T.get_leaf (p : Pos) : T.get p (.leaf : T α) = none := by cases p <;> rfl

theorem T.get_set (p : Pos) (x : Option α) : ∀ t : T α, T.get p (T.set p x t) = x := by
  induction p with
  | H => intro t; cases t <;> rfl
  | O p ih => intro t; cases t with
    | leaf => exact ih .leaf
    | node l v r => exact ih l
  | I p ih => intro t; cases t with
    | leaf => exact ih .leaf
    | node l v r => exact ih r

theorem T.get_set_ne (p : Pos) (x : Option α) : ∀ (q : Pos) (t : T α), q ≠ p → T.get q (T.set p x t) = T.get q t := by
  induction p with
  | H =>
    intro q t h
    cases q with
    | H => exact absurd rfl h
    | O q => cases t with
      | leaf => exact T.get_leaf q
      | node l v r => rfl
    | I q => cases t with
      | leaf => exact T.get_leaf q
      | node l v r => rfl
  | O p ih =>
    intro q t h
    cases q with
    | H => cases t <;> rfl
    | O q => cases t with
      | leaf => exact (ih q .leaf (fun e => h (by rw [e]))).trans (T.get_leaf q)
      | node l v r => exact ih q l (fun e => h (by rw [e]))
    | I q => cases t with
      | leaf => exact T.get_leaf q
      | node l v r => rfl
  | I p ih =>
    intro q t h
    cases q with
    | H => cases t <;> rfl
    | O q => cases t with
      | leaf => exact T.get_leaf q
      | node l v r => rfl
    | I q => cases t with
      | leaf => exact (ih q .leaf (fun e => h (by rw [e]))).trans (T.get_leaf q)
      | node l v r => exact ih q r (fun e => h (by rw [e]))

def T.at (t : T α) (n : Nat) : Option α := T.get (posOf n) t
def T.put (t : T α) (n : Nat) (x : Option α) : T α := T.set (posOf n) x t

theorem T.at_put (t : T α) (n : Nat) (x : Option α) : (t.put n x).at n = x := T.get_set _ _ _
theorem T.at_put_ne (t : T α) (n m : Nat) (x : Option α) (h : m ≠ n) : (t.put n x).at m = t.at m :=
  T.get_set_ne _ _ _ _ fun e => h (posOf_inj e)
theorem T.at_leaf (n : Nat) : (T.leaf : T α).at n = none := T.get_leaf _

theorem T.at_put_eq (t : T α) (n m : Nat) (x : Option α) : (t.put n x).at m = if m = n then x else t.at m := by
  by_cases h : m = n
  · subst h; simp [T.at_put]
  · simp [h, T.at_put_ne t n m x h]

mutual
inductive AV where
  | bool (b : Bool)
  | int (k : IntKind) (n : Int)
  | str (n N : Nat)
  | nilp
  | ptr (b off : Nat)
  | nils
  | slice (b off len cap : Nat)
  | sliceu (b off len es : Nat)
  | nilm
  | map (b : Nat)
  | fn (f : FuncId) (first captured : List AV)
  | meth (name : String) (first captured : List AV)
  | yld (b : Nat)
  | nilf
  | iface (t : TypeId) (v : AV)
  | nili
  | agg (r : List Seg)
  | tup (vs : List AV)
  | opq (i : Nat)
inductive Seg where
  | one (v : AV)
  | bytes (n N : Nat)
end

abbrev Row := List Seg

/-- the first n digits to the base 256, the lowest first -/
def dig : Nat → Nat → List Nat
  | 0, _ => []
  | n + 1, N => N % 256 :: dig n (N / 256)

@[simp] theorem dig_length (n : Nat) : ∀ N, (dig n N).length = n := by
  induction n with
  | zero => intro N; rfl
  | succ n ih => intro N; simp [dig, ih]

theorem dig_lt (n : Nat) : ∀ N, ∀ d ∈ dig n N, d < 256 := by
  induction n with
  | zero => intro N d h; cases h
  | succ n ih =>
    intro N d h
    simp only [dig, List.mem_cons] at h
    rcases h with rfl | h
    · omega
    · exact ih _ _ h

theorem dig_add (a : Nat) : ∀ b N, dig (a + b) N = dig a N ++ dig b (N / 256 ^ a) := by
  induction a with
  | zero => intro b N; simp [dig]
  | succ a ih =>
    intro b N
    rw [show a + 1 + b = (a + b) + 1 from by omega]
    simp only [dig, ih, List.cons_append]
    rw [Nat.div_div_eq_div_mul, show 256 * 256 ^ a = 256 ^ (a + 1) from by rw [Nat.pow_succ, Nat.mul_comm]]

theorem dig_mod (a : Nat) : ∀ N, dig a (N % 256 ^ a) = dig a N := by
  induction a with
  | zero => intro N; rfl
  | succ a ih =>
    intro N
    simp only [dig]
    have h1 : N % 256 ^ (a + 1) % 256 = N % 256 := by
      rw [Nat.pow_succ, Nat.mul_comm]; exact Nat.mod_mul_right_mod _ _ _
    have h2 : N % 256 ^ (a + 1) / 256 = N / 256 % 256 ^ a := by
      rw [Nat.pow_succ, Nat.mul_comm]; exact Nat.mod_mul_right_div_self N 256 (256 ^ a)
    rw [h1, h2, ih]

theorem dig_glue (a b N M : Nat) : dig (a + b) (N % 256 ^ a + M * 256 ^ a) = dig a N ++ dig b M := by
  rw [dig_add]
  have hp : 0 < 256 ^ a := Nat.pow_pos (by omega)
  have h2 : (N % 256 ^ a + M * 256 ^ a) / 256 ^ a = M := by
    rw [Nat.add_mul_div_right _ _ hp, Nat.div_eq_of_lt (Nat.mod_lt _ hp), Nat.zero_add]
  rw [h2, ← dig_mod a (N % 256 ^ a + M * 256 ^ a), Nat.add_mul_mod_self_right, Nat.mod_mod, dig_mod]

theorem dig_take (a b N : Nat) : (dig (a + b) N).take a = dig a N := by
  rw [dig_add, List.take_append_of_le_length (by simp), List.take_of_length_le (by simp)]
theorem dig_drop (a b N : Nat) : (dig (a + b) N).drop a = dig b (N / 256 ^ a) := by
  rw [dig_add, List.drop_append_of_le_length (by simp), List.drop_of_length_le (by simp), List.nil_append]

theorem pow256 (n : Nat) : 256 ^ n = 2 ^ (8 * n) := by rw [show 256 = 2 ^ 8 from rfl, ← Nat.pow_mul]

/-- cells of bytes -/
def digV (n N : Nat) : List Value := (dig n N).map fun (d : Nat) => Value.int .u8 (d : Int)

/-- the bytes of a string -/
def digS (n N : Nat) : ByteArray := ⟨((dig n N).map UInt8.ofNat).toArray⟩

/-- which block of memory an abstract block is, and how many cells it has -/
abbrev Inj := Nat → Option (Nat × Nat)

def Ext (ι ι' : Inj) : Prop := ∀ b p, ι b = some p → ι' b = some p

theorem Ext.refl (ι : Inj) : Ext ι ι := fun _ _ h => h
theorem Ext.trans {ι ι' ι'' : Inj} (h : Ext ι ι') (h' : Ext ι' ι'') : Ext ι ι'' := fun b p e => h' b p (h b p e)

mutual
inductive VR (env : Nat → Value) (ι : Inj) : AV → Value → Prop where
  | bool (b : Bool) : VR env ι (.bool b) (.bool b)
  | int (k : IntKind) (n : Int) : VR env ι (.int k n) (.int k n)
  | str (n N : Nat) : VR env ι (.str n N) (.string (digS n N))
  | nilp : VR env ι .nilp (.pointer none)
  | ptr (b off c s : Nat) : ι b = some (c, s) → VR env ι (.ptr b off) (.pointer (some ⟨c, off, none⟩))
  | nils : VR env ι .nils (.slice none 0 0)
  | slice (b off len cap c s : Nat) : ι b = some (c, s) → VR env ι (.slice b off len cap) (.slice (some ⟨c, off, none⟩) len cap)
  | sliceu (b off len es c s cap : Nat) : ι b = some (c, s) → len ≤ cap → off + cap * es = s → VR env ι (.sliceu b off len es) (.slice (some ⟨c, off, none⟩) len cap)
  | nilm : VR env ι .nilm (.map none)
  | map (b c s : Nat) : ι b = some (c, s) → VR env ι (.map b) (.map (some c))
  | fn (f : FuncId) (vs us : List AV) (xs ys : List Value) : LR env ι vs xs → LR env ι us ys → VR env ι (.fn f vs us) (.func (.func f) xs.toArray ys.toArray)
  | meth (name : String) (vs us : List AV) (xs ys : List Value) : LR env ι vs xs → LR env ι us ys → VR env ι (.meth name vs us) (.func (.method name) xs.toArray ys.toArray)
  | yld (b c s : Nat) : ι b = some (c, s) → VR env ι (.yld b) (.func (.yield c) #[] #[])
  | nilf : VR env ι .nilf .nilFunc
  | iface (t : TypeId) (v : AV) (x : Value) : VR env ι v x → VR env ι (.iface t v) (.iface t x)
  | nili : VR env ι .nili .nilIface
  | agg (r : Row) (xs : List Value) : RR env ι r xs → VR env ι (.agg r) (.agg xs.toArray)
  | tup (vs : List AV) (xs : List Value) : LR env ι vs xs → VR env ι (.tup vs) (.tuple xs.toArray)
  | opq (i : Nat) : (env i).oneCell' = true → VR env ι (.opq i) (env i)
inductive RR (env : Nat → Value) (ι : Inj) : List Seg → List Value → Prop where
  | nil : RR env ι [] []
  | one (v : AV) (x : Value) (r : Row) (xs : List Value) : VR env ι v x → x.oneCell' = true → RR env ι r xs → RR env ι (.one v :: r) (x :: xs)
  | bytes (n N : Nat) (r : Row) (xs : List Value) : RR env ι r xs → RR env ι (.bytes n N :: r) (digV n N ++ xs)
inductive LR (env : Nat → Value) (ι : Inj) : List AV → List Value → Prop where
  | nil : LR env ι [] []
  | cons (v : AV) (x : Value) (vs : List AV) (xs : List Value) : VR env ι v x → LR env ι vs xs → LR env ι (v :: vs) (x :: xs)
end


variable {env : Nat → Value} {ι ι' : Inj}

mutual
theorem VR.mono (h : Ext ι ι') : ∀ {v : AV} {x : Value}, VR env ι v x → VR env ι' v x
  | _, _, .bool b => .bool b
  | _, _, .int k n => .int k n
  | _, _, .str n N => .str n N
  | _, _, .nilp => .nilp
  | _, _, .ptr b off c s e => .ptr b off c s (h _ _ e)
  | _, _, .nils => .nils
  | _, _, .slice b off len cap c s e => .slice b off len cap c s (h _ _ e)
  | _, _, .sliceu b off len es c s cap e a d => .sliceu b off len es c s cap (h _ _ e) a d
  | _, _, .nilm => .nilm
  | _, _, .map b c s e => .map b c s (h _ _ e)
  | _, _, .fn f vs us xs ys a d => .fn f vs us xs ys (LR.mono h a) (LR.mono h d)
  | _, _, .meth f vs us xs ys a d => .meth f vs us xs ys (LR.mono h a) (LR.mono h d)
  | _, _, .yld b c s e => .yld b c s (h _ _ e)
  | _, _, .nilf => .nilf
  | _, _, .iface t v x e => .iface t v x (VR.mono h e)
  | _, _, .nili => .nili
  | _, _, .agg r xs e => .agg r xs (RR.mono h e)
  | _, _, .tup vs xs e => .tup vs xs (LR.mono h e)
  | _, _, .opq i e => .opq i e
theorem RR.mono (h : Ext ι ι') : ∀ {r : List Seg} {xs : List Value}, RR env ι r xs → RR env ι' r xs
  | _, _, .nil => .nil
  | _, _, .one v x r xs a b c => .one v x r xs (VR.mono h a) b (RR.mono h c)
  | _, _, .bytes n N r xs c => .bytes n N r xs (RR.mono h c)
theorem LR.mono (h : Ext ι ι') : ∀ {r : List AV} {xs : List Value}, LR env ι r xs → LR env ι' r xs
  | _, _, .nil => .nil
  | _, _, .cons v x r xs a c => .cons v x r xs (VR.mono h a) (LR.mono h c)
end

end
end Go.Ab
