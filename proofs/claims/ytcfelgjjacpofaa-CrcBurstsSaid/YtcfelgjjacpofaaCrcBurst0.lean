import Derived.Test.YtcfelgjjacpofaaCrcSeals
namespace Go.Proofs.Ytcfelgjjacpofaa

/-- four bytes as a number -/
def lev (c : List UInt8) : Nat := (c.getD 0 0).toNat + 256 * (c.getD 1 0).toNat + 65536 * (c.getD 2 0).toNat + 16777216 * (c.getD 3 0).toNat
theorem lev_lt (c : List UInt8) : lev c < 4294967296 := by
  unfold lev
  have h0 := (c.getD 0 0).toNat_lt
  have h1 := (c.getD 1 0).toNat_lt
  have h2 := (c.getD 2 0).toNat_lt
  have h3 := (c.getD 3 0).toNat_lt
  omega
theorem lev_le32 (n : Nat) (hn : n < 4294967296) : lev (le32 n) = n := by
  simp [lev, le32]
  omega
theorem le32_lev (a b c d : UInt8) : le32 (lev [a, b, c, d]) = [a, b, c, d] := by
  have h0 := a.toNat_lt
  have h1 := b.toNat_lt
  have h2 := c.toNat_lt
  have h3 := d.toNat_lt
  have e : ∀ (x : Nat) (u : UInt8), x % 256 = u.toNat → UInt8.ofNat x = u := fun x u h => by
    apply UInt8.toNat_inj.1
    simpa using h
  simp only [le32, lev, List.getD_cons_zero, List.getD_cons_succ]
  rw [e _ a (by omega), e _ b (by omega), e _ c (by omega), e _ d (by omega)]
theorem add_xor (x b k : Nat) (hx : x < 2 ^ k) : x + 2 ^ k * b = x ^^^ (b * 2 ^ k) := by
  have h := split_pow k (x + 2 ^ k * b)
  rw [show (x + 2 ^ k * b) / 2 ^ k = b by rw [Nat.add_mul_div_left _ _ (Nat.two_pow_pos k), Nat.div_eq_of_lt hx, Nat.zero_add], show (x + 2 ^ k * b) % 2 ^ k = x by rw [Nat.add_mul_mod_self_left, Nat.mod_eq_of_lt hx]] at h
  rw [h, Nat.xor_comm]
/-- the sum over four bytes -/
theorem csum_four (x : Nat) (a b c d : UInt8) : csum x [a, b, c, d] = cstn 32 (x ^^^ lev [a, b, c, d]) := by
  have h0 := a.toNat_lt
  have h1 := b.toNat_lt
  have h2 := c.toNat_lt
  have h3 := d.toNat_lt
  show cbyte (cbyte (cbyte (cbyte x a.toNat) b.toNat) c.toNat) d.toNat = _
  simp only [cbyte_eq]
  have e : ∀ n y (u : Nat), cstn n y ^^^ u = cstn n (y ^^^ (u * 2 ^ n)) := fun n y u => by rw [cstn_xor, cstn_pow]
  rw [e 8 (x ^^^ a.toNat), ← cstn_add, e (8 + 8), ← cstn_add, e (8 + (8 + 8)), ← cstn_add]
  congr 1
  simp only [lev, List.getD_cons_zero, List.getD_cons_succ]
  have e1 := add_xor a.toNat b.toNat 8 (by omega)
  have e2 := add_xor (a.toNat + 256 * b.toNat) c.toNat 16 (by omega)
  have e3 := add_xor (a.toNat + 256 * b.toNat + 65536 * c.toNat) d.toNat 24 (by omega)
  rw [show 2 ^ 8 = 256 from rfl] at e1
  rw [show 2 ^ 16 = 65536 from rfl] at e2
  rw [show 2 ^ 24 = 16777216 from rfl] at e3
  rw [e3, e2, e1]
  simp only [Nat.xor_assoc]

theorem list4 (c : List UInt8) (h : c.length = 4) : ∃ a b d e, c = [a, b, d, e] := by
  match c, h with
  | [a, b, d, e], _ => exact ⟨a, b, d, e, rfl⟩
/-- opened: the sum over all is the one number -/
theorem openB_iff (t : List UInt8) (h : 4 ≤ t.length) : openB t = true ↔ csum 4294967295 t = cstn 32 4294967295 := by
  have hd := List.take_append_drop (t.length - 4) t
  obtain ⟨a, b, c, d, hc⟩ := list4 (t.drop (t.length - 4)) (by simp; omega)
  unfold openB
  rw [decide_eq_true h, hc]
  conv => rhs; rw [← hd, hc]
  generalize t.take (t.length - 4) = p
  rw [csum_append, csum_four, cmore_x 0 (by omega)]
  simp only [Bool.true_and, decide_eq_true_eq]
  rw [show 4294967295 ^^^ 0 = 4294967295 from rfl]
  have hp := csum_lt p 4294967295 (by omega)
  have hl := lev_lt [a, b, c, d]
  constructor
  · intro h2
    have h3 := congrArg lev h2
    rw [lev_le32 _ (Nat.xor_lt_two_pow (n := 32) (by omega) (by omega))] at h3
    rw [← h3, Nat.xor_comm 4294967295, ← Nat.xor_assoc, Nat.xor_self, Nat.zero_xor]
  · intro h2
    have h3 := cstn_inj 32 _ _ (Nat.xor_lt_two_pow (n := 32) hp hl) (by omega) h2
    have h4 : csum 4294967295 p ^^^ (csum 4294967295 p ^^^ lev [a, b, c, d]) = csum 4294967295 p ^^^ 4294967295 := by rw [h3]
    rw [← Nat.xor_assoc, Nat.xor_self, Nat.zero_xor] at h4
    rw [Nat.xor_comm 4294967295, ← h4, le32_lev]

theorem csum_zeros (n : Nat) : csum 0 (List.replicate n 0) = 0 := by
  induction n with
  | zero => rfl
  | succ n ih =>
    show csum (cbyte 0 0) (List.replicate n 0) = 0
    rw [cbyte_eq, Nat.xor_self, cstn_zero, ih]
/-- a burst of 32 bits is no sum -/
theorem csum_burst (i r n : Nat) (hn : n < 4294967296) (h : csum 0 (List.replicate i 0 ++ (le32 n ++ List.replicate r 0)) = 0) : n = 0 := by
  rw [csum_append, csum_zeros, csum_append] at h
  have h1 : csum (csum 0 (le32 n)) (List.replicate r 0) = csum 0 (List.replicate r 0) := by rw [h, csum_zeros]
  have h2 := csum_inj _ _ _ (csum_lt _ _ (by omega)) (by omega) h1
  have h3 : csum 0 (le32 n) = cstn 32 (0 ^^^ lev (le32 n)) := csum_four 0 _ _ _ _
  rw [h3, Nat.zero_xor, lev_le32 n hn] at h2
  exact cstn_inj0 32 n hn h2

/-- the bytes that are others behind k of four rounds -/
def burst (t : List UInt8) (i n k : Nat) : List UInt8 := (List.range t.length).map fun j => t.getD j 0 ^^^ (if i ≤ j ∧ j < i + k then (le32 n).getD (j - i) 0 else 0)
theorem burst_length (t : List UInt8) (i n k : Nat) : (burst t i n k).length = t.length := by simp [burst]
theorem burst_zero (t : List UInt8) (i n : Nat) : burst t i n 0 = t := by
  apply List.ext_getElem?
  intro j
  by_cases hj : j < t.length
  · simp [burst, hj, show ¬ (i ≤ j ∧ j < i) by omega]
  · rw [List.getElem?_eq_none (by rw [burst_length]; omega), List.getElem?_eq_none (by omega)]
theorem burst_get (t : List UInt8) (i n k : Nat) (hk : i + k < t.length) : (burst t i n k)[i + k]'(by rw [burst_length]; exact hk) = t[i + k] := by
  simp [burst, hk]
theorem burst_set (t : List UInt8) (i n k : Nat) (hk : i + k < t.length) : (burst t i n k).set (i + k) (t[i + k] ^^^ (le32 n).getD k 0) = burst t i n (k + 1) := by
  apply List.ext_getElem?
  intro j
  by_cases hj : j < t.length
  · by_cases e : i + k = j
    · subst e
      rw [List.getElem?_set_self (by rw [burst_length]; exact hk)]
      simp [burst, hk]
    · rw [List.getElem?_set_ne e]
      have e2 : (i ≤ j ∧ j < i + (k + 1)) ↔ (i ≤ j ∧ j < i + k) := by omega
      simp [burst, hj, e2]
  · rw [List.getElem?_eq_none (by rw [List.length_set, burst_length]; omega), List.getElem?_eq_none (by rw [burst_length]; omega)]
theorem burst_zip (t : List UInt8) (i n r : Nat) (h : t.length = i + 4 + r) : burst t i n 4 = zipX t (List.replicate i 0 ++ (le32 n ++ List.replicate r 0)) := by
  have hl : t.length = (List.replicate i (0 : UInt8) ++ (le32 n ++ List.replicate r 0)).length := by
    simp [le32_length]
    omega
  apply List.ext_getElem?
  intro j
  by_cases hj : j < t.length
  · rw [zipX_getElem? _ _ _ hl hj]
    have e : (burst t i n 4)[j]? = some (t.getD j 0 ^^^ (if i ≤ j ∧ j < i + 4 then (le32 n).getD (j - i) 0 else 0)) := by simp [burst, hj]
    rw [e]
    congr 2
    unfold List.getD
    by_cases h1 : j < i
    · rw [if_neg (by omega), List.getElem?_append_left (by simpa using h1), List.getElem?_replicate, if_pos h1]
      rfl
    · rw [List.getElem?_append_right (by simp; omega), List.length_replicate]
      by_cases h2 : j < i + 4
      · rw [if_pos (by omega), List.getElem?_append_left (by rw [le32_length]; omega)]
      · rw [if_neg (by omega), List.getElem?_append_right (by rw [le32_length]; omega), List.getElem?_replicate, if_pos (by rw [le32_length]; omega)]
        rfl
  · rw [List.getElem?_eq_none (by rw [burst_length]; omega), List.getElem?_eq_none (by simp only [zipX, List.length_zipWith]; omega)]
theorem burst_tells (t : List UInt8) (i n : Nat) (hn : n < 4294967296) (h0 : 0 < n) (h : i + 4 ≤ t.length) (ht : openB t = true) : openB (burst t i n 4) = false := by
  cases hb : openB (burst t i n 4) with
  | false => rfl
  | true =>
    have h1 := (openB_iff t (by omega)).1 ht
    have h2 := (openB_iff _ (by rw [burst_length]; omega)).1 hb
    rw [burst_zip t i n (t.length - i - 4) (by omega)] at h2
    have h3 := csum_zip t (List.replicate i 0 ++ (le32 n ++ List.replicate (t.length - i - 4) 0)) (by simp [le32_length]; omega) 4294967295 0
    rw [Nat.xor_zero, h2, h1] at h3
    have h4 : cstn 32 4294967295 ^^^ cstn 32 4294967295 = cstn 32 4294967295 ^^^ (cstn 32 4294967295 ^^^ csum 0 (List.replicate i 0 ++ (le32 n ++ List.replicate (t.length - i - 4) 0))) := by rw [← h3]
    rw [← Nat.xor_assoc, Nat.xor_self, Nat.zero_xor] at h4
    have := csum_burst _ _ n hn h4.symm
    omega
end Go.Proofs.Ytcfelgjjacpofaa
