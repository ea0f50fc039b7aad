/- texts added and multiplied: the plain laws. -/
import Derived.Test.YtaghdkiafgainaaDoorSyShown
import Derived.Test.YtaghdkiafgainaaDoorSyDelta
namespace Go.Proofs.YtaghdkiafgainaaDoor
set_option maxRecDepth 20000
open Go.RowKit Go.OpenShut

theorem getD_lt {l : List UInt8} {i : Nat} (h : i < l.length) : l.getD i 0 = l[i] := by simp [List.getD, h]
theorem getD_ge {l : List UInt8} {i : Nat} (h : l.length ≤ i) : l.getD i 0 = 0 := by simp [List.getD, List.getElem?_eq_none h]
theorem u8_zero_gm (a : Nat) : UInt8.ofNat (gm (0 : UInt8).toNat a) = 0 := by
  rw [show (0 : UInt8).toNat = 0 from rfl, gm_zero_left]
  rfl
theorem mulL_getD (l : List UInt8) (b i : Nat) : (mulL l b).getD i 0 = UInt8.ofNat (gm (l.getD i 0).toNat b) := by
  rcases Nat.lt_or_ge i l.length with h | h
  · rw [getD_lt (by rw [mulL_len]; exact h), getD_lt h]
    simp [mulL]
  · rw [getD_ge (by rw [mulL_len]; exact h), getD_ge h, u8_zero_gm]
theorem list_ext {l m : List UInt8} (h : l.length = m.length) (h2 : ∀ i, i < l.length → l.getD i 0 = m.getD i 0) : l = m := by
  apply List.ext_getElem h
  intro i h3 h4
  have := h2 i h3
  rw [getD_lt h3, getD_lt h4] at this
  exact this
theorem xorL_getD (s t : List UInt8) (i : Nat) : (xorL s t).getD i 0 = s.getD i 0 ^^^ t.getD i 0 := by
  rcases Nat.lt_or_ge i (max s.length t.length) with h | h
  · rw [getD_lt (by rw [xorL_length]; exact h)]
    simp only [xorL, List.getElem_map, List.getElem_range]
  · rw [getD_ge (by rw [xorL_length]; exact h), getD_ge (l := s) (by omega), getD_ge (l := t) (by omega)]
    rfl
theorem u8_xor_nat' (x y : Nat) : UInt8.ofNat (x ^^^ y) = UInt8.ofNat x ^^^ UInt8.ofNat y := UInt8.ofNat_xor x y
theorem lin4 (s t : List UInt8) (a : Nat) (ha : a < 256) : mulL (xorL s t) a = xorL (mulL s a) (mulL t a) := by
  refine list_ext (by rw [mulL_len, xorL_length, xorL_length, mulL_len, mulL_len]) fun i _ => ?_
  rw [mulL_getD, xorL_getD, xorL_getD, mulL_getD, mulL_getD, ← u8_xor_nat']
  have h1 := (s.getD i 0).toNat_lt
  have h2 := (t.getD i 0).toNat_lt
  rw [UInt8.toNat_xor, gm_comm (xor_lt h1 h2) ha, gm_comm h1 ha, gm_comm h2 ha, gm_xor ha h1 h2]
theorem lin5 (s : List UInt8) (a b : Nat) (ha : a < 256) (hb : b < 256) : mulL (mulL s a) b = mulL s (gm a b) := by
  unfold mulL
  rw [List.map_map]
  refine List.map_congr_left fun c _ => ?_
  have h1 := c.toNat_lt
  simp only [Function.comp]
  rw [UInt8.toNat_ofNat_of_lt' (gm_lt h1), ← gm_assoc h1 ha hb]
theorem lin6 (s : List UInt8) (a b : Nat) (ha : a < 256) (hb : b < 256) : xorL (mulL s a) (mulL s b) = mulL s (a ^^^ b) := by
  refine list_ext (by rw [xorL_length, mulL_len, mulL_len, mulL_len, Nat.max_self]) fun i _ => ?_
  rw [xorL_getD, mulL_getD, mulL_getD, mulL_getD, ← u8_xor_nat', gm_xor (s.getD i 0).toNat_lt ha hb]
theorem lin7 (s : List UInt8) : mulL s 1 = s := by
  unfold mulL
  conv => rhs; rw [← List.map_id s]
  refine List.map_congr_left fun c _ => ?_
  rw [gm_one c.toNat_lt]
  simp
theorem xorL_assoc (s t r : List UInt8) : xorL (xorL s t) r = xorL s (xorL t r) := by
  apply list_ext
  · simp only [xorL_length, Nat.max_assoc]
  · intro i _
    simp only [xorL_getD, UInt8.xor_assoc]
theorem xorL_nilr (s : List UInt8) : xorL s [] = s := by rw [xorL_comm, xorL_nil]
theorem xorL_4 (a b c d : List UInt8) : xorL (xorL a b) (xorL c d) = xorL (xorL a c) (xorL b d) := by
  rw [xorL_assoc, xorL_assoc, ← xorL_assoc b, ← xorL_assoc c, xorL_comm b c]
theorem zip_range_snoc (xs : List ByteArray) (x : ByteArray) : (xs ++ [x]).zip (List.range (xs ++ [x]).length) = xs.zip (List.range xs.length) ++ [(x, xs.length)] := by
  rw [List.length_append, List.length_singleton, List.range_succ, List.zip_append (by simp)]
  rfl
theorem qL_snoc (xs : List ByteArray) (x : ByteArray) : qL (xs ++ [x]) = xorL (qL xs) (mulL x.data.toList (pw xs.length)) := by
  unfold qL qZ
  rw [zip_range_snoc, List.foldl_append]
  rfl
theorem qL_nil : qL [] = [] := rfl
theorem addL_nil : addL [] = [] := rfl
/-- induction over a list's end -/
theorem snoc_ind {P : List ByteArray → Prop} (h0 : P []) (h1 : ∀ xs x, P xs → P (xs ++ [x])) (xs : List ByteArray) : P xs := by
  have h : ∀ n (xs : List ByteArray), xs.length = n → P xs := by
    intro n
    induction n with
    | zero =>
      intro xs h
      rw [List.eq_nil_of_length_eq_zero h]
      exact h0
    | succ n ih =>
      intro xs h
      have hne : xs ≠ [] := by intro e; subst e; simp at h
      rw [← List.dropLast_concat_getLast hne]
      exact h1 _ _ (ih _ (by rw [List.length_dropLast, h]; rfl))
  exact h _ xs rfl
theorem addL_cons (x : ByteArray) (xs : List ByteArray) : addL (x :: xs) = xorL x.data.toList (addL xs) := by
  induction xs using snoc_ind with
  | h0 =>
    show addL ([] ++ [x]) = _
    rw [addL_snoc, addL_nil, xorL_nil, xorL_nilr]
  | h1 xs y ih =>
    rw [← List.cons_append, addL_snoc, ih, addL_snoc, xorL_assoc]
theorem qL_cons (x : ByteArray) (xs : List ByteArray) : qL (x :: xs) = xorL x.data.toList (mulL (qL xs) 2) := by
  induction xs using snoc_ind with
  | h0 =>
    show qL ([] ++ [x]) = _
    rw [qL_snoc, qL_nil, xorL_nil, List.length_nil, show pw 0 = 1 from rfl, lin7]
    exact (xorL_nilr _).symm
  | h1 xs y ih =>
    rw [← List.cons_append, qL_snoc, ih, qL_snoc, lin4 _ _ 2 (by omega), xorL_assoc, lin5 _ _ _ (pw_lt _) (by omega), List.length_cons, show (2 : Nat) = pw 1 from rfl, gm_pp]
theorem addL_reverse (xs : List ByteArray) : addL xs.reverse = addL xs := by
  induction xs with
  | nil => rfl
  | cons x xs ih => rw [List.reverse_cons, addL_snoc, ih, addL_cons, xorL_comm]
theorem addL_turn (xs : List ByteArray) (x : ByteArray) : addL (x :: xs) = addL (xs ++ [x]) := by rw [addL_cons, addL_snoc, xorL_comm]
theorem zeroB_self (l : List UInt8) : zeroB (xorL l l) = true := by
  rw [zeroB_iff]
  intro i _
  rw [xorL_getD, UInt8.xor_self]
theorem zeroB_eq {l m : List UInt8} (h : ∀ i, l.getD i 0 = m.getD i 0) : zeroB (xorL l m) = true := by
  rw [zeroB_iff]
  intro i _
  rw [xorL_getD, h, UInt8.xor_self]
theorem qL_len (M : Nat) (xs : List ByteArray) (h : ∀ x ∈ xs, x.size ≤ M) : (qL xs).length ≤ M := qZ_len M xs _ h

/-! ### one column that is another one -/
theorem addL_set (j : Nat) (y : ByteArray) : ∀ (xs : List ByteArray) (k : Nat), k < xs.length → (addL (xs.set k y)).getD j 0 = ((addL xs).getD j 0 ^^^ (xs.getD k ⟨#[]⟩).data.toList.getD j 0) ^^^ y.data.toList.getD j 0 := by
  intro xs
  induction xs using snoc_ind with
  | h0 => intro k h; simp at h
  | h1 xs x ih =>
    intro k hk
    rw [List.length_append, List.length_singleton] at hk
    rcases Nat.lt_or_ge k xs.length with h | h
    · rw [List.set_append_left _ _ h, addL_snoc, addL_snoc, xorL_getD, xorL_getD, ih k h]
      have e : (xs ++ [x]).getD k ⟨#[]⟩ = xs.getD k ⟨#[]⟩ := by simp [List.getD, List.getElem?_append_left h]
      rw [e]
      ac_rfl
    · obtain rfl : k = xs.length := by omega
      have e : (xs ++ [x]).getD xs.length ⟨#[]⟩ = x := by simp [List.getD]
      have e2 : (xs ++ [x]).set xs.length y = xs ++ [y] := by rw [List.set_append_right _ _ (Nat.le_refl _)]; simp
      rw [e, e2, addL_snoc, addL_snoc, xorL_getD, xorL_getD, UInt8.xor_assoc ((addL xs).getD j 0), UInt8.xor_self, UInt8.xor_zero]
theorem qL_set (j : Nat) (y : ByteArray) : ∀ (xs : List ByteArray) (k : Nat), k < xs.length → (qL (xs.set k y)).getD j 0 = ((qL xs).getD j 0 ^^^ (mulL (xs.getD k ⟨#[]⟩).data.toList (pw k)).getD j 0) ^^^ (mulL y.data.toList (pw k)).getD j 0 := by
  intro xs
  induction xs using snoc_ind with
  | h0 => intro k h; simp at h
  | h1 xs x ih =>
    intro k hk
    rw [List.length_append, List.length_singleton] at hk
    rcases Nat.lt_or_ge k xs.length with h | h
    · rw [List.set_append_left _ _ h, qL_snoc, qL_snoc, xorL_getD, xorL_getD, ih k h, List.length_set]
      have e : (xs ++ [x]).getD k ⟨#[]⟩ = xs.getD k ⟨#[]⟩ := by simp [List.getD, List.getElem?_append_left h]
      rw [e]
      ac_rfl
    · obtain rfl : k = xs.length := by omega
      have e : (xs ++ [x]).getD xs.length ⟨#[]⟩ = x := by simp [List.getD]
      have e2 : (xs ++ [x]).set xs.length y = xs ++ [y] := by rw [List.set_append_right _ _ (Nat.le_refl _)]; simp
      rw [e, e2, qL_snoc, qL_snoc, xorL_getD, xorL_getD, UInt8.xor_assoc ((qL xs).getD j 0), UInt8.xor_self, UInt8.xor_zero]

/-! ### sums of columns -/
def xorS (s t : ByteArray) : ByteArray := ⟨(xorL s.data.toList t.data.toList).toArray⟩
def sumS (l m : List ByteArray) (k : Nat) : List ByteArray := (List.range k).map fun i => xorS (l.getD i ⟨#[]⟩) (m.getD i ⟨#[]⟩)
theorem sumS_len (l m : List ByteArray) (k : Nat) : (sumS l m k).length = k := by simp [sumS]
theorem sumS_succ (l m : List ByteArray) (k : Nat) : sumS l m (k + 1) = sumS l m k ++ [xorS (l.getD k ⟨#[]⟩) (m.getD k ⟨#[]⟩)] := by simp [sumS, List.range_succ]
theorem sumS_add (l m : List ByteArray) : ∀ k, k ≤ l.length → k ≤ m.length → addL (sumS l m k) = xorL (addL (l.take k)) (addL (m.take k)) := by
  intro k
  induction k with
  | zero => intro _ _; rfl
  | succ k ih =>
    intro h1 h2
    rw [sumS_succ, addL_snoc, ih (by omega) (by omega), take_snocS l k h1, take_snocS m k h2, addL_snoc, addL_snoc, xorL_4]
    unfold xorS
    rw [mk_list]
theorem sumS_q (l m : List ByteArray) : ∀ k, k ≤ l.length → k ≤ m.length → qL (sumS l m k) = xorL (qL (l.take k)) (qL (m.take k)) := by
  intro k
  induction k with
  | zero => intro _ _; rfl
  | succ k ih =>
    intro h1 h2
    rw [sumS_succ, qL_snoc, ih (by omega) (by omega), take_snocS l k h1, take_snocS m k h2, qL_snoc, qL_snoc, xorL_4]
    unfold xorS
    rw [mk_list, sumS_len, lin4 _ _ _ (pw_lt _), List.length_take, List.length_take, Nat.min_eq_left (by omega), Nat.min_eq_left (by omega)]
theorem xorS_size (s t : ByteArray) : (xorS s t).size = max s.size t.size := by
  unfold xorS
  rw [size_mk, xorL_length]
  simp
theorem sumS_size (l m : List ByteArray) (M : Nat) (hl : ∀ x ∈ l, x.size ≤ M) (hm : ∀ x ∈ m, x.size ≤ M) (k : Nat) (h1 : k ≤ l.length) (h2 : k ≤ m.length) : ∀ x ∈ sumS l m k, x.size ≤ M := by
  intro x hx
  unfold sumS at hx
  obtain ⟨i, hi, rfl⟩ := List.mem_map.1 hx
  rw [List.mem_range] at hi
  rw [xorS_size]
  have g1 := hl _ (mem_getD (xs := l) (k := i) (by omega))
  have g2 := hm _ (mem_getD (xs := m) (k := i) (by omega))
  omega
end Go.Proofs.YtaghdkiafgainaaDoor
