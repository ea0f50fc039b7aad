/- The field of 256 numbers, plain: xt is 'times two', pw its powers; the product by bits is the sum of exponents. -/
import Derived.Test.YtaghdkiafgainaaDoorB1
namespace Go.Proofs.YtaghdkiafgainaaDoor
set_option maxRecDepth 20000

def xt (a : Nat) : Nat := if a < 128 then 2 * a else (2 * a - 256) ^^^ 29
def xtn : Nat → Nat → Nat
  | 0, a => a
  | k + 1, a => xtn k (xt a)
def pw (i : Nat) : Nat := xtn i 1
/-- the product, bit by bit -/
def gmF : Nat → Nat → Nat → Nat
  | 0, _, _ => 0
  | k + 1, a, b => (if b % 2 = 1 then a else 0) ^^^ gmF k (xt a) (b / 2)
def gm (a b : Nat) : Nat := gmF 8 a b

def all2 (f : Nat → Nat → Bool) (n : Nat) : Bool := (List.range n).all fun a => (List.range n).all fun b => f a b
def all1 (f : Nat → Bool) (n : Nat) : Bool := (List.range n).all f
theorem all1_at {f : Nat → Bool} {n : Nat} (h : all1 f n = true) {a : Nat} (ha : a < n) : f a = true := List.all_eq_true.1 h a (List.mem_range.2 ha)

theorem xt_lt {a : Nat} (h : a < 256) : xt a < 256 := by
  have h1 : all1 (fun a => decide (xt a < 256)) 256 = true := by decide +kernel
  simpa using all1_at h1 h
theorem xt_ne {a : Nat} (h : a < 256) (h0 : a ≠ 0) : xt a ≠ 0 := by
  have h1 : all1 (fun a => a == 0 || xt a != 0) 256 = true := by decide +kernel
  have := all1_at h1 h
  simp [h0] at this
  exact this
theorem dbl_xor (a b : Nat) : 2 * (a ^^^ b) = (2 * a) ^^^ (2 * b) := by
  have h1 := Nat.shiftLeft_xor_distrib (a := a) (b := b) (i := 1)
  simp only [Nat.shiftLeft_eq, Nat.pow_one] at h1
  rw [Nat.mul_comm 2, Nat.mul_comm 2, Nat.mul_comm 2]
  exact h1
/-- without a test: the number twice, and 285 where its top bit is set -/
theorem xt_eq {a : Nat} (h : a < 256) : xt a = (2 * a) ^^^ (285 * (a / 128)) := by
  have h1 : all1 (fun a => xt a == (2 * a) ^^^ (285 * (a / 128))) 256 = true := by decide +kernel
  simpa using all1_at h1 h
theorem top_xor {a b : Nat} (ha : a < 256) (hb : b < 256) : 285 * ((a ^^^ b) / 128) = (285 * (a / 128)) ^^^ (285 * (b / 128)) := by
  have e : (a ^^^ b) / 128 = (a / 128) ^^^ (b / 128) := by
    have := Nat.shiftRight_xor_distrib (a := a) (b := b) (i := 7)
    simpa [Nat.shiftRight_eq_div_pow] using this
  have h1 : a / 128 = 0 ∨ a / 128 = 1 := by omega
  have h2 : b / 128 = 0 ∨ b / 128 = 1 := by omega
  rw [e]
  rcases h1 with h1 | h1 <;> rcases h2 with h2 | h2 <;> rw [h1, h2] <;> decide
theorem xor_lt {a b : Nat} (ha : a < 256) (hb : b < 256) : a ^^^ b < 256 := Nat.xor_lt_two_pow (n := 8) ha hb
theorem xor4 (a b c d : Nat) : (a ^^^ b) ^^^ (c ^^^ d) = (a ^^^ c) ^^^ (b ^^^ d) := by
  rw [Nat.xor_assoc, Nat.xor_assoc, ← Nat.xor_assoc b, Nat.xor_comm b c, Nat.xor_assoc c]
theorem xt_xor {a b : Nat} (ha : a < 256) (hb : b < 256) : xt (a ^^^ b) = xt a ^^^ xt b := by
  rw [xt_eq (xor_lt ha hb), xt_eq ha, xt_eq hb, dbl_xor, top_xor ha hb, xor4]
theorem xt_zero : xt 0 = 0 := rfl
theorem gmF_lt : ∀ (k a b : Nat), a < 256 → gmF k a b < 256
  | 0, _, _, _ => by show 0 < 256; omega
  | k + 1, a, b, h => by
    rw [gmF]
    refine xor_lt ?_ (gmF_lt k _ _ (xt_lt h))
    split <;> omega
theorem gmF_xt : ∀ (k a b : Nat), a < 256 → gmF k (xt a) b = xt (gmF k a b)
  | 0, _, _, _ => rfl
  | k + 1, a, b, h => by
    rw [gmF, gmF, gmF_xt k _ _ (xt_lt h), xt_xor (by split <;> omega) (gmF_lt k _ _ (xt_lt h))]
    congr 1
    split <;> rfl
theorem gmF_zero : ∀ (k a : Nat), gmF k a 0 = 0
  | 0, _ => rfl
  | k + 1, a => by
    rw [gmF, Nat.zero_div, gmF_zero k]
    simp
theorem gm_one_left {b : Nat} (h : b < 256) : gm 1 b = b := by
  have h1 : all1 (fun b => gm 1 b == b) 256 = true := by decide +kernel
  simpa using all1_at h1 h
theorem gmF_zero_left : ∀ (k b : Nat), gmF k 0 b = 0
  | 0, _ => rfl
  | k + 1, b => by
    rw [gmF, xt_zero, gmF_zero_left k]
    simp
theorem gm_zero_left (b : Nat) : gm 0 b = 0 := gmF_zero_left 8 b
theorem gm_zero_right (a : Nat) : gm a 0 = 0 := gmF_zero 8 a
theorem xtn_lt : ∀ (k a : Nat), a < 256 → xtn k a < 256
  | 0, _, h => h
  | k + 1, _, h => xtn_lt k _ (xt_lt h)
theorem xtn_ne : ∀ (k a : Nat), a < 256 → a ≠ 0 → xtn k a ≠ 0
  | 0, _, _, h0 => h0
  | k + 1, _, h, h0 => xtn_ne k _ (xt_lt h) (xt_ne h h0)
theorem xtn_add : ∀ (j k a : Nat), xtn (j + k) a = xtn k (xtn j a)
  | 0, k, a => by rw [Nat.zero_add]; rfl
  | j + 1, k, a => by rw [Nat.succ_add]; exact xtn_add j k (xt a)
theorem xtn_succ (k a : Nat) : xtn (k + 1) a = xt (xtn k a) := xtn_add k 1 a
theorem xtn_xor : ∀ (k a b : Nat), a < 256 → b < 256 → xtn k (a ^^^ b) = xtn k a ^^^ xtn k b
  | 0, _, _, _, _ => rfl
  | k + 1, a, b, ha, hb => by
    rw [xtn, xtn, xtn, xt_xor ha hb, xtn_xor k _ _ (xt_lt ha) (xt_lt hb)]
theorem gm_xtn : ∀ (k a b : Nat), a < 256 → gm (xtn k a) b = xtn k (gm a b)
  | 0, _, _, _ => rfl
  | k + 1, a, b, h => by
    rw [xtn, xtn, gm_xtn k _ _ (xt_lt h)]
    congr 1
    exact gmF_xt 8 a b h
theorem pw_lt (i : Nat) : pw i < 256 := xtn_lt i 1 (by omega)
theorem pw_ne (i : Nat) : pw i ≠ 0 := xtn_ne i 1 (by omega) (by omega)
theorem gm_pw (i : Nat) {b : Nat} (h : b < 256) : gm (pw i) b = xtn i b := by
  unfold pw
  rw [gm_xtn i 1 b (by omega), gm_one_left h]
theorem gm_pp (i j : Nat) : gm (pw i) (pw j) = pw (i + j) := by
  rw [gm_pw i (pw_lt j)]
  unfold pw
  rw [Nat.add_comm, xtn_add]
theorem pw_succ (i : Nat) : pw (i + 1) = xt (pw i) := xtn_succ i 1

/-! ### logarithms -/
def lgF : Nat → Nat → Nat → Nat → Nat
  | 0, i, _, _ => i
  | k + 1, i, x, a => if x = a then i else lgF k (i + 1) (xt x) a
def lg (a : Nat) : Nat := lgF 255 0 1 a
def lgAll : Bool := all1 (fun a => a == 0 || (decide (lg a < 255) && pw (lg a) == a)) 256
theorem lg_all : lgAll = true := by decide +kernel
theorem pw_lg {a : Nat} (h : a < 256) (h0 : a ≠ 0) : lg a < 255 ∧ pw (lg a) = a := by
  have := all1_at lg_all h
  simpa [h0] using this
theorem pw255 : pw 255 = 1 := by decide +kernel
theorem lg_pw {i : Nat} (h : i < 255) : lg (pw i) = i := by
  have h1 : all1 (fun i => lg (pw i) == i) 255 = true := by decide +kernel
  simpa using all1_at h1 h
theorem pw_add255 (i : Nat) : pw (i + 255) = pw i := by
  have := gm_pp i 255
  rw [pw255] at this
  have h1 : gm (pw i) 1 = pw i := by
    have := gm_pp i 0
    rw [Nat.add_zero] at this
    exact this
  rw [← this, h1]
theorem pw_mod (i : Nat) : pw (i % 255) = pw i := by
  have h : ∀ q r : Nat, pw (r + 255 * q) = pw r := fun q r => by
    induction q with
    | zero => rfl
    | succ q ih => rw [Nat.mul_succ, ← Nat.add_assoc, pw_add255, ih]
  conv => rhs; rw [← Nat.mod_add_div i 255]
  rw [h]
theorem pw_inj {i j : Nat} (hi : i < 255) (hj : j < 255) (h : pw i = pw j) : i = j := by
  rw [← lg_pw hi, ← lg_pw hj, h]

/-! ### the laws of the field -/
theorem gm_comm {a b : Nat} (ha : a < 256) (hb : b < 256) : gm a b = gm b a := by
  by_cases h0 : a = 0
  · subst h0; rw [gm_zero_left, gm_zero_right]
  · by_cases h1 : b = 0
    · subst h1; rw [gm_zero_left, gm_zero_right]
    · rw [← (pw_lg ha h0).2, ← (pw_lg hb h1).2, gm_pp, gm_pp, Nat.add_comm]
theorem gm_lt {a b : Nat} (ha : a < 256) : gm a b < 256 := gmF_lt 8 a b ha
theorem gm_assoc {a b c : Nat} (ha : a < 256) (hb : b < 256) (hc : c < 256) : gm a (gm b c) = gm (gm a b) c := by
  by_cases h0 : a = 0
  · subst h0; rw [gm_zero_left, gm_zero_left, gm_zero_left]
  · by_cases h1 : b = 0
    · subst h1; rw [gm_zero_left, gm_zero_right, gm_zero_left]
    · by_cases h2 : c = 0
      · subst h2; rw [gm_zero_right, gm_zero_right, gm_zero_right]
      · rw [← (pw_lg ha h0).2, ← (pw_lg hb h1).2, ← (pw_lg hc h2).2, gm_pp, gm_pp, gm_pp, gm_pp, Nat.add_assoc]
theorem gm_xor {a b c : Nat} (ha : a < 256) (hb : b < 256) (hc : c < 256) : gm a (b ^^^ c) = gm a b ^^^ gm a c := by
  by_cases h0 : a = 0
  · subst h0; rw [gm_zero_left, gm_zero_left, gm_zero_left]; rfl
  · rw [← (pw_lg ha h0).2, gm_pw _ (xor_lt hb hc), gm_pw _ hb, gm_pw _ hc, xtn_xor _ _ _ hb hc]
theorem gm_one {a : Nat} (ha : a < 256) : gm a 1 = a := by rw [gm_comm ha (by omega), gm_one_left ha]
theorem gm_eq_zero {a b : Nat} (ha : a < 256) (hb : b < 256) : gm a b = 0 ↔ a = 0 ∨ b = 0 := by
  constructor
  · intro h
    by_cases h0 : a = 0
    · exact .inl h0
    · by_cases h1 : b = 0
      · exact .inr h1
      · rw [← (pw_lg ha h0).2, ← (pw_lg hb h1).2, gm_pp] at h
        exact absurd h (pw_ne _)
  · rintro (rfl | rfl)
    · exact gm_zero_left b
    · exact gm_zero_right a
def inv (a : Nat) : Nat := pw ((255 - lg a) % 255)
theorem inv_lt (a : Nat) : inv a < 256 := pw_lt _
theorem inv_ne (a : Nat) : inv a ≠ 0 := pw_ne _
theorem gm_inv {a : Nat} (ha : a < 256) (h0 : a ≠ 0) : gm a (inv a) = 1 := by
  obtain ⟨h1, h2⟩ := pw_lg ha h0
  unfold inv
  rw [pw_mod]
  conv => lhs; rw [← h2]
  rw [gm_pp]
  have : pw (lg a + (255 - lg (pw (lg a)))) = 1 := by
    rw [h2, show lg a + (255 - lg a) = 0 + 255 by omega, pw_add255]
    rfl
  exact this
theorem gm_cancel {a b c : Nat} (ha : a < 256) (hb : b < 256) (hc : c < 256) (h0 : a ≠ 0) (h : gm a b = gm a c) : b = c := by
  have h1 : gm (inv a) (gm a b) = gm (inv a) (gm a c) := by rw [h]
  rw [gm_assoc (inv_lt a) ha hb, gm_assoc (inv_lt a) ha hc, gm_comm (inv_lt a) ha, gm_inv ha h0, gm_one_left hb, gm_one_left hc] at h1
  exact h1
end Go.Proofs.YtaghdkiafgainaaDoor
