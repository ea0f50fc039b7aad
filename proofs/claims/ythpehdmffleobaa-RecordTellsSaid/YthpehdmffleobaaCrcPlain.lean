/- The plain law of the sum: steps over numbers below 2^32, by exclusive or; what is linear, what is told apart. -/
namespace Go.Proofs.Ythpehdmffleobaa

/-- one step of the sum -/
def cst (x : Nat) : Nat := x / 2 ^^^ (2197175160 * (x % 2))
def cstn : Nat → Nat → Nat
  | 0, x => x
  | n + 1, x => cst (cstn n x)
def chalf (y : Nat) : Nat := y / 16 ^^^ cstn 4 (y % 16)
def cbyte (y b : Nat) : Nat := chalf (chalf (y ^^^ b))
def csum (y : Nat) (l : List UInt8) : Nat := l.foldl (fun y b => cbyte y b.toNat) y
def cmore (n : Nat) (l : List UInt8) : Nat := 4294967295 - csum (4294967295 - n) l

theorem cst_lt (x : Nat) (h : x < 4294967296) : cst x < 4294967296 := by
  unfold cst
  have h2 : x % 2 = 0 ∨ x % 2 = 1 := by omega
  exact Nat.xor_lt_two_pow (n := 32) (by omega) (by rcases h2 with h2 | h2 <;> rw [h2] <;> omega)
theorem cstn_lt (n x : Nat) (h : x < 4294967296) : cstn n x < 4294967296 := by
  induction n with
  | zero => exact h
  | succ n ih => exact cst_lt _ ih
theorem chalf_lt (y : Nat) (hy : y < 4294967296) : chalf y < 4294967296 := by
  unfold chalf
  exact Nat.xor_lt_two_pow (n := 32) (by omega) (cstn_lt _ _ (by omega))
theorem csum_snoc (y : Nat) (l : List UInt8) (b : UInt8) : csum y (l ++ [b]) = cbyte (csum y l) b.toNat := by simp [csum]
theorem csum_append (y : Nat) (l m : List UInt8) : csum y (l ++ m) = csum (csum y l) m := by simp [csum]
theorem cbyte_lt (y b : Nat) (hy : y < 4294967296) (hb : b < 256) : cbyte y b < 4294967296 :=
  chalf_lt _ (chalf_lt _ (Nat.xor_lt_two_pow (n := 32) (by omega) (by omega)))
theorem csum_lt (l : List UInt8) (y : Nat) (hy : y < 4294967296) : csum y l < 4294967296 := by
  induction l generalizing y with
  | nil => exact hy
  | cons b l ih => exact ih _ (cbyte_lt _ _ hy b.toNat_lt)
theorem cmore_lt (n : Nat) (l : List UInt8) : cmore n l < 4294967296 := by unfold cmore; omega
theorem cmore_append (n : Nat) (l m : List UInt8) : cmore n (l ++ m) = cmore (cmore n l) m := by
  have h := csum_lt l (4294967295 - n) (by omega)
  unfold cmore
  rw [csum_append, show 4294967295 - (4294967295 - csum (4294967295 - n) l) = csum (4294967295 - n) l by omega]
theorem cmore_nil (n : Nat) (hn : n < 4294967296) : cmore n [] = n := by
  show 4294967295 - (4294967295 - n) = n
  omega

/-! ### exclusive or -/
theorem x_comm4 (a b c d : Nat) : (a ^^^ b) ^^^ (c ^^^ d) = (a ^^^ c) ^^^ (b ^^^ d) := by
  rw [Nat.xor_assoc, Nat.xor_assoc, ← Nat.xor_assoc b c d, ← Nat.xor_assoc c b d, Nat.xor_comm b c]
theorem x_cancel {a b : Nat} (h : a ^^^ b = 0) : a = b := by
  have h1 : (a ^^^ b) ^^^ b = 0 ^^^ b := by rw [h]
  rwa [Nat.xor_assoc, Nat.xor_self, Nat.xor_zero, Nat.zero_xor] at h1
theorem x_mul2 (p x y : Nat) : p * ((x ^^^ y) % 2) = p * (x % 2) ^^^ p * (y % 2) := by
  have h := @Nat.xor_mod_two_pow x y 1
  rw [show 2 ^ 1 = 2 from rfl] at h
  rw [h]
  have h1 : x % 2 = 0 ∨ x % 2 = 1 := by omega
  have h2 : y % 2 = 0 ∨ y % 2 = 1 := by omega
  rcases h1 with h1 | h1 <;> rcases h2 with h2 | h2 <;> rw [h1, h2] <;> simp
/-- all bits of 32 turned -/
theorem x_not (n : Nat) (hn : n < 4294967296) : 4294967295 ^^^ n = 4294967295 - n := by
  apply Nat.eq_of_testBit_eq
  intro i
  have h2 := Nat.testBit_two_pow_sub_succ (x := n) (n := 32) (by omega) i
  rw [show 2 ^ 32 - (n + 1) = 4294967295 - n by omega] at h2
  rw [h2, Nat.testBit_xor]
  have h3 := Nat.testBit_two_pow_sub_one 32 i
  rw [show 2 ^ 32 - 1 = 4294967295 by omega] at h3
  rw [h3]
  by_cases hi : i < 32
  · simp [hi]
  · have : n.testBit i = false := Nat.testBit_lt_two_pow (Nat.lt_of_lt_of_le hn (by rw [show 4294967296 = 2 ^ 32 by omega]; exact Nat.pow_le_pow_right (by omega) (by omega)))
    simp [hi, this]

/-! ### steps are linear -/
theorem cst_xor (x y : Nat) : cst (x ^^^ y) = cst x ^^^ cst y := by
  unfold cst
  rw [Nat.xor_div_two, x_mul2, x_comm4]
theorem cstn_xor (n x y : Nat) : cstn n (x ^^^ y) = cstn n x ^^^ cstn n y := by
  induction n with
  | zero => rfl
  | succ n ih => show cst _ = _; rw [ih, cst_xor]; rfl
theorem cst_zero : cst 0 = 0 := by decide
theorem cstn_zero (n : Nat) : cstn n 0 = 0 := by
  induction n with
  | zero => rfl
  | succ n ih => show cst _ = _; rw [ih]; rfl
theorem cstn_add (n m x : Nat) : cstn (n + m) x = cstn n (cstn m x) := by
  induction n with
  | zero => rw [Nat.zero_add]; rfl
  | succ n ih => rw [show n + 1 + m = (n + m) + 1 by omega]; show cst _ = cst _; rw [ih]
theorem cstn_pow (n q : Nat) : cstn n (q * 2 ^ n) = q := by
  induction n generalizing q with
  | zero => simp [cstn]
  | succ n ih =>
    show cst _ = q
    rw [show q * 2 ^ (n + 1) = (q * 2) * 2 ^ n by rw [Nat.pow_succ, Nat.mul_comm (2 ^ n) 2, Nat.mul_assoc], ih (q * 2)]
    unfold cst
    rw [show q * 2 / 2 = q by omega, show q * 2 % 2 = 0 by omega]
    simp
theorem split_pow (n y : Nat) : y = (y / 2 ^ n * 2 ^ n) ^^^ (y % 2 ^ n) := by
  apply Nat.eq_of_testBit_eq
  intro i
  rw [Nat.testBit_xor, Nat.testBit_mul_two_pow, Nat.testBit_div_two_pow, Nat.testBit_mod_two_pow]
  by_cases h : i < n
  · simp [h, show ¬ n ≤ i by omega]
  · have e : i - n + n = i := by omega
    simp [h, e, show n ≤ i by omega]
theorem chalf_eq (y : Nat) : chalf y = cstn 4 y := by
  have h := split_pow 4 y
  unfold chalf
  conv => rhs; rw [h]
  rw [cstn_xor, cstn_pow]
theorem cbyte_eq (y b : Nat) : cbyte y b = cstn 8 (y ^^^ b) := by
  unfold cbyte
  rw [chalf_eq, chalf_eq, ← cstn_add]

/-! ### what is told apart -/
theorem cst_inj0 (z : Nat) (hz : z < 4294967296) (h : cst z = 0) : z = 0 := by
  have h1 := x_cancel h
  have h2 : z % 2 = 0 ∨ z % 2 = 1 := by omega
  rcases h2 with h2 | h2 <;> rw [h2] at h1 <;> omega
theorem cstn_inj0 (n z : Nat) (hz : z < 4294967296) (h : cstn n z = 0) : z = 0 := by
  induction n with
  | zero => exact h
  | succ n ih => exact ih (cst_inj0 _ (cstn_lt _ _ hz) h)
theorem cstn_inj (n x y : Nat) (hx : x < 4294967296) (hy : y < 4294967296) (h : cstn n x = cstn n y) : x = y := by
  apply x_cancel
  apply cstn_inj0 n _ (Nat.xor_lt_two_pow (n := 32) hx hy)
  rw [cstn_xor, h, Nat.xor_self]
theorem csum_inj (l : List UInt8) (x y : Nat) (hx : x < 4294967296) (hy : y < 4294967296) (h : csum x l = csum y l) : x = y := by
  induction l generalizing x y with
  | nil => exact h
  | cons b l ih =>
    have h1 := ih _ _ (cbyte_lt _ _ hx b.toNat_lt) (cbyte_lt _ _ hy b.toNat_lt) h
    rw [cbyte_eq, cbyte_eq] at h1
    have h2 := cstn_inj 8 _ _ (Nat.xor_lt_two_pow (n := 32) hx (Nat.lt_trans b.toNat_lt (by omega))) (Nat.xor_lt_two_pow (n := 32) hy (Nat.lt_trans b.toNat_lt (by omega))) h1
    apply x_cancel
    have h3 : (x ^^^ b.toNat) ^^^ (y ^^^ b.toNat) = 0 := by rw [h2, Nat.xor_self]
    rwa [x_comm4, Nat.xor_self, Nat.xor_zero] at h3
/-- sums of two texts of one length, added -/
def zipX (l m : List UInt8) : List UInt8 := List.zipWith (fun a b => a ^^^ b) l m
theorem csum_zip (l m : List UInt8) (h : l.length = m.length) (x y : Nat) : csum (x ^^^ y) (zipX l m) = csum x l ^^^ csum y m := by
  induction l generalizing m x y with
  | nil =>
    cases m with
    | nil => rfl
    | cons b m => simp at h
  | cons a l ih =>
    cases m with
    | nil => simp at h
    | cons b m =>
      show csum (cbyte (x ^^^ y) (a ^^^ b).toNat) (zipX l m) = csum (cbyte x a.toNat) l ^^^ csum (cbyte y b.toNat) m
      rw [← ih m (by simpa using h)]
      congr 1
      rw [cbyte_eq, cbyte_eq, cbyte_eq, ← cstn_xor, UInt8.toNat_xor, x_comm4]
theorem cmore_x (n : Nat) (hn : n < 4294967296) (l : List UInt8) : cmore n l = 4294967295 ^^^ csum (4294967295 ^^^ n) l := by
  have h := csum_lt l (4294967295 - n) (by omega)
  rw [x_not n hn, x_not _ h]
  rfl
theorem cmore_three (a b c : List UInt8) (h1 : a.length = b.length) (h2 : a.length = c.length) : cmore 0 (zipX (zipX a b) c) = cmore 0 a ^^^ cmore 0 b ^^^ cmore 0 c := by
  rw [cmore_x 0 (by omega), cmore_x 0 (by omega), cmore_x 0 (by omega), cmore_x 0 (by omega)]
  rw [show 4294967295 ^^^ 0 = 4294967295 from rfl]
  have e1 := csum_zip (zipX a b) c (by simp [zipX]; omega) (4294967295 ^^^ 4294967295) 4294967295
  have e2 := csum_zip a b h1 4294967295 4294967295
  rw [e2, Nat.xor_self, Nat.zero_xor] at e1
  rw [e1, ← Nat.xor_assoc, ← Nat.xor_assoc, x_comm4 4294967295 (csum 4294967295 a) 4294967295 (csum 4294967295 b), Nat.xor_self, Nat.zero_xor, ← Nat.xor_assoc]
  congr 1
  rw [Nat.xor_assoc, Nat.xor_comm 4294967295]
theorem cmore_inj (l m : List UInt8) (n : Nat) (h : cmore n l = cmore n m) : csum (4294967295 - n) l = csum (4294967295 - n) m := by
  have h1 := csum_lt l (4294967295 - n) (by omega)
  have h2 := csum_lt m (4294967295 - n) (by omega)
  unfold cmore at h
  omega
/-- one byte that is another one -/
theorem cmore_one (p q : List UInt8) (a b : UInt8) (hab : a ≠ b) (n : Nat) : cmore n (p ++ a :: q) ≠ cmore n (p ++ b :: q) := by
  intro h
  have h1 := cmore_inj _ _ n h
  rw [csum_append, csum_append] at h1
  have hp := csum_lt p (4294967295 - n) (by omega)
  have h2 := csum_inj q _ _ (cbyte_lt _ _ hp a.toNat_lt) (cbyte_lt _ _ hp b.toNat_lt) h1
  rw [cbyte_eq, cbyte_eq] at h2
  have ha := a.toNat_lt
  have hb := b.toNat_lt
  have h3 := cstn_inj 8 _ _ (Nat.xor_lt_two_pow (n := 32) hp (by omega)) (Nat.xor_lt_two_pow (n := 32) hp (by omega)) h2
  apply hab
  apply UInt8.toNat_inj.1
  apply x_cancel
  have h4 : (csum (4294967295 - n) p ^^^ a.toNat) ^^^ (csum (4294967295 - n) p ^^^ b.toNat) = 0 := by rw [h3, Nat.xor_self]
  rwa [x_comm4, Nat.xor_self, Nat.zero_xor] at h4
end Go.Proofs.Ythpehdmffleobaa
