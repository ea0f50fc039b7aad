/- The plain law of packing: what the places come to, number by number. -/
import Derived.Test.YthpehdmffleobaaPackDec
namespace Go.Proofs.Ythpehdmffleobaa
open Go.RowKit Go.OpenShut

def leN : List UInt8 → Nat
  | [] => 0
  | b :: t => b.toNat + 256 * leN t
def leB (x w : Nat) : List UInt8 := (List.range w).map fun j => UInt8.ofNat (x / 256 ^ j)
def decL : List Int → List UInt8 → List Nat
  | [], _ => []
  | w :: r, bs => leN (bs.take w.toNat) :: decL r (bs.drop w.toNat)
def encLL : List Nat → List Int → List UInt8
  | x :: l, w :: r => leB x w.toNat ++ encLL l r
  | _, _ => []
theorem decL_len : ∀ (ws : List Int) (bs : List UInt8), (decL ws bs).length = ws.length
  | [], _ => rfl
  | _ :: r, bs => by simp [decL, decL_len r]
theorem leB_len (x w : Nat) : (leB x w).length = w := by simp [leB]
theorem leB_succ (x w : Nat) : leB x (w + 1) = UInt8.ofNat x :: leB (x / 256) w := by
  unfold leB
  rw [List.range_succ_eq_map, List.map_cons, List.map_map]
  congr 1
  · simp
  · refine List.map_congr_left fun j _ => ?_
    simp only [Function.comp, Nat.succ_eq_add_one]
    rw [Nat.pow_succ', Nat.div_div_eq_div_mul]
theorem leN_leB : ∀ (w x : Nat), leN (leB x w) = x % 256 ^ w
  | 0, x => by simp [leB, leN, Nat.mod_one]
  | w + 1, x => by
    rw [leB_succ, leN, leN_leB w]
    have h1 : x % 256 ^ (w + 1) = x % 256 + 256 * (x / 256 % 256 ^ w) := by
      rw [Nat.pow_succ', Nat.mod_mul]
    rw [h1]
    simp
theorem leN_lt : ∀ (t : List UInt8), leN t < 256 ^ t.length
  | [] => by simp [leN]
  | b :: t => by
    have h := leN_lt t
    have hb := b.toNat_lt
    simp only [leN, List.length_cons, Nat.pow_succ']
    omega
theorem leB_leN : ∀ (t : List UInt8), leB (leN t) t.length = t
  | [] => rfl
  | b :: t => by
    have hb := b.toNat_lt
    rw [List.length_cons, leB_succ]
    have h1 : UInt8.ofNat (leN (b :: t)) = b := by
      have : leN (b :: t) % 256 = b.toNat := by rw [leN]; omega
      rw [← UInt8.toNat_inj]
      simp [this]
    have h2 : leN (b :: t) / 256 = leN t := by rw [leN]; omega
    rw [h1, h2, leB_leN t]
theorem leN_take_lt (w : Nat) (bs : List UInt8) : leN (bs.take w) < 256 ^ w :=
  Nat.lt_of_lt_of_le (leN_lt _) (Nat.pow_le_pow_right (by omega) (List.length_take_le _ _))
theorem sumW_cons (x : Int) (r : List Int) : sumW (x :: r) = x + sumW r := rfl
theorem encLL_len : ∀ (l : List Nat) (ws : List Int), (∀ x ∈ ws, 1 ≤ x ∧ x ≤ 8) → l.length = ws.length → ((encLL l ws).length : Int) = sumW ws
  | [], [], _, _ => rfl
  | x :: l, w :: r, h, hl => by
    have h1 := h w (by simp)
    have h2 := encLL_len l r (fun y hy => h y (by simp [hy])) (by simpa using hl)
    rw [encLL, List.length_append, leB_len, sumW_cons]
    omega
/-- numbers that fit come back -/
theorem dec_enc : ∀ (l : List Nat) (ws : List Int), l.length = ws.length → (∀ i, i < ws.length → l.getD i 0 < 256 ^ (ws.getD i 0).toNat) → decL ws (encLL l ws) = l
  | [], [], _, _ => rfl
  | x :: l, w :: r, hl, hf => by
    have h0 := hf 0 (by simp)
    simp at h0
    rw [encLL, decL, List.take_append_of_le_length (by rw [leB_len]; exact Nat.le_refl _), List.take_of_length_le (by rw [leB_len]; exact Nat.le_refl _), leN_leB, Nat.mod_eq_of_lt h0,
      List.drop_append_of_le_length (by rw [leB_len]; exact Nat.le_refl _), List.drop_of_length_le (by rw [leB_len]; exact Nat.le_refl _), List.nil_append, dec_enc l r (by simpa using hl)]
    intro i hi
    have := hf (i + 1) (by simp; omega)
    simpa using this
/-- .. and bytes -/
theorem enc_dec : ∀ (ws : List Int) (bs : List UInt8), (∀ x ∈ ws, 1 ≤ x ∧ x ≤ 8) → (bs.length : Int) = sumW ws → encLL (decL ws bs) ws = bs
  | [], bs, _, h => by
    have : bs = [] := List.eq_nil_of_length_eq_zero (by simp [sumW] at h; simp [h])
    rw [this]
    rfl
  | w :: r, bs, hw, h => by
    have h1 := hw w (by simp)
    have hr : ∀ x ∈ r, 1 ≤ x ∧ x ≤ 8 := fun y hy => hw y (List.mem_cons_of_mem _ hy)
    have h2 := (sumW_bd r hr).1
    rw [sumW_cons] at h
    have h3 : (bs.take w.toNat).length = w.toNat := by simp; omega
    rw [decL, encLL, enc_dec r (bs.drop w.toNat) hr (by simp; omega)]
    have h4 := leB_leN (bs.take w.toNat)
    rw [h3] at h4
    rw [h4, List.take_append_drop]
theorem decL_fits : ∀ (ws : List Int) (bs : List UInt8) (i : Nat), i < ws.length → (decL ws bs).getD i 0 < 256 ^ (ws.getD i 0).toNat
  | w :: r, bs, 0, _ => by
    simp [decL]
    exact leN_take_lt _ _
  | w :: r, bs, i + 1, h => by
    have := decL_fits r (bs.drop w.toNat) i (by simpa using h)
    simpa [decL] using this

/-! ### the program's places -/
theorem or_add (a b k : Nat) (h : a < 256 ^ k) : a ||| b * 256 ^ k = a + 256 ^ k * b := by
  rw [show (256 : Nat) = 2 ^ 8 from rfl, ← Nat.pow_mul] at *
  rw [Nat.or_comm, Nat.mul_comm b, ← Nat.two_pow_add_eq_or_of_lt h, Nat.add_comm]
theorem foldl_block (acc z : List Nat) : ∀ (t : List UInt8) (k a : Nat), a < 256 ^ k →
    ((((List.range' k t.length).map fun j => (acc.length, j)).zip t).foldl decStep (acc ++ a :: z)) = acc ++ (a + 256 ^ k * leN t) :: z
  | [], k, a, _ => by simp [leN]
  | b :: t, k, a, h => by
    have hb := b.toNat_lt
    rw [List.length_cons, List.range'_succ, List.map_cons, List.zip_cons_cons, List.foldl_cons]
    have h1 : decStep (acc ++ a :: z) ((acc.length, k), b) = acc ++ (a ||| b.toNat * 256 ^ k) :: z := by
      simp [decStep, List.getD]
    have h2 : a + 256 ^ k * b.toNat < 256 ^ (k + 1) := by
      rw [Nat.pow_succ]
      have : 256 ^ k * b.toNat ≤ 256 ^ k * 255 := Nat.mul_le_mul_left _ (by omega)
      omega
    rw [h1, or_add a _ k h, foldl_block acc z t (k + 1) _ h2, leN]
    congr 2
    rw [Nat.pow_succ, Nat.mul_add, Nat.mul_assoc]
    omega
theorem decF_gen : ∀ (ws : List Int) (acc : List Nat) (bs : List UInt8), (∀ x ∈ ws, 1 ≤ x ∧ x ≤ 8) → (bs.length : Int) = sumW ws →
    (((placesF acc.length ws).zip bs).foldl decStep (acc ++ List.replicate ws.length 0)) = acc ++ decL ws bs
  | [], acc, bs, _, _ => by simp [placesF, decL]
  | w :: r, acc, bs, hw, h => by
    have h1 := hw w (by simp)
    have hr : ∀ x ∈ r, 1 ≤ x ∧ x ≤ 8 := fun y hy => hw y (List.mem_cons_of_mem _ hy)
    have h2 := (sumW_bd r hr).1
    rw [sumW_cons] at h
    have h3 : (bs.take w.toNat).length = w.toNat := by simp; omega
    rw [placesF]
    conv => lhs; rw [← List.take_append_drop w.toNat bs]
    rw [List.zip_append (by simp; omega), List.foldl_append, List.length_cons, List.replicate_succ]
    have h4 := foldl_block acc (List.replicate r.length 0) (bs.take w.toNat) 0 0 (by simp)
    rw [h3, ← List.range_eq_range'] at h4
    rw [h4]
    have h5 := decF_gen r (acc ++ [leN (bs.take w.toNat)]) (bs.drop w.toNat) hr (by simp; omega)
    rw [List.length_append, List.length_singleton] at h5
    simp only [Nat.pow_zero, Nat.one_mul, Nat.zero_add, decL]
    simpa using h5
theorem decF_eq (ws : List Int) (bs : List UInt8) (h : ∀ x ∈ ws, 1 ≤ x ∧ x ≤ 8) (hb : (bs.length : Int) = sumW ws) : decF bs ws.length (placesF 0 ws) = decL ws bs := by
  have := decF_gen ws [] bs h hb
  simpa [decF] using this
theorem encL_gen : ∀ (ws : List Int) (ls pre : List Int), ls.length = ws.length → (placesF pre.length ws).map (encByte (pre ++ ls)) = encLL (ls.map Int.toNat) ws
  | [], [], pre, _ => by simp [placesF, encLL]
  | w :: r, x :: ls, pre, h => by
    rw [placesF, List.map_append, List.map_map, List.map_cons, encLL]
    have h1 := encL_gen r ls (pre ++ [x]) (by simpa using h)
    rw [List.length_append, List.length_singleton, List.append_assoc, List.singleton_append] at h1
    rw [h1]
    congr 1
    unfold leB
    refine List.map_congr_left fun j _ => ?_
    simp [Function.comp, encByte, List.getD]
theorem encL_eq (ls ws : List Int) (h : ls.length = ws.length) : encL ls ws = encLL (ls.map Int.toNat) ws := by
  have := encL_gen ws ls [] h
  simpa [encL] using this
theorem encS_size {ls ws : List Int} (h0 : wOK ws = true) (h1 : ls.length = ws.length) (h : allFit ls ws = true) : ((encS ls ws).size : Int) = sumW ws := by
  rw [(enc_ok h0 h1 h).2, ← placesF_length 0 ws (by unfold wOK at h0; simp at h0; exact h0.1)]
  show (((encL ls ws).toArray.size : Nat) : Int) = _
  simp [encL]
end Go.Proofs.Ythpehdmffleobaa
