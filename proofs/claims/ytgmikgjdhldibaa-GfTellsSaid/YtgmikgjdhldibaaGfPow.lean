import Derived.Test.YtgmikgjdhldibaaGfInverse
namespace Go.Proofs.Ytgmikgjdhldibaa
open Go.RowKit Go.OpenShut

def pwI (z : Int) : Nat := pw (z % 255).toNat
theorem pwI_lt (z : Int) : pwI z < 256 := pw_lt _
theorem pwI_ne (z : Int) : pwI z ≠ 0 := pw_ne _
theorem pwI_add (x y : Int) : gm (pwI x) (pwI y) = pwI (x + y) := by
  unfold pwI
  rw [gm_pp, ← pw_mod]
  congr 1
  omega
theorem pwI_congr {x y : Int} (h : x % 255 = y % 255) : pwI x = pwI y := by unfold pwI; rw [h]
theorem pwI_zero : pwI 0 = 1 := rfl
theorem pwI_nat (i : Nat) : pwI (i : Int) = pw i := by
  unfold pwI
  rw [← pw_mod i]
  congr 1
theorem tmod_mul (a n : Int) : (a * n.tmod 255) % 255 = (a * n) % 255 := by
  have h : n.tmod 255 = n - 255 * (n.tdiv 255) := by
    have := Int.tmod_add_mul_tdiv n 255
    omega
  rw [h, Int.mul_sub, Int.mul_left_comm, Int.sub_mul_emod_self_left]
def powR (a : Nat) (n : Int) : Nat := if n = 0 then 1 else if a = 0 then 0 else pwI ((lg a : Int) * n)
theorem powR_lt (a : Nat) (n : Int) : powR a n < 256 := by
  unfold powR
  split
  · omega
  · split
    · omega
    · exact pwI_lt _

set_option maxRecDepth 100000 in
set_option maxHeartbeats 1000000 in
theorem pow_ok (w : World) (a : Nat) (n : Int) (ha : a < 256) (h0 : 0 < a) (hn : n ≠ 0) :
    Calls Try.prog 20 #[.int .u8 a, .int .i64 n] w fun e w' => e = .returned (.int .u8 (pwI ((lg a : Int) * n) : Nat)) ∧ Below w.heap.size w w' := by
  have hb : (n == 0) = false := beq_eq_false_iff_ne.2 hn
  have ha0 : ((a : Int) == 0) = false := beq_eq_false_iff_ne.2 (by omega)
  have hlg := (pw_lg ha (by omega)).1
  have ht1 := tmod255 n
  have hr : pw ((lg a : Int) * n.tmod 255 % 255).toNat = pwI ((lg a : Int) * n) := by
    unfold pwI
    rw [tmod_mul]
  obtain ⟨r, hr2⟩ : ∃ r, pwI ((lg a : Int) * n) = r := ⟨_, rfl⟩
  rw [hr2] at hr ⊢
  obtain ⟨m, hm⟩ : ∃ m, n.tmod 255 = m := ⟨_, rfl⟩
  have hml : -255 < m ∧ m < 255 := by omega
  rw [hm] at hr
  clear ht1 hr2 hn
  have HLC := Lib.hid (fun (w : World) (g : Nat) (h : Tab w g) => h.lg ha (by omega))
  generalize lg a = L at *
  have hbd : -64770 ≤ (L : Int) * m ∧ (L : Int) * m ≤ 64770 := by
    have e1 : (L : Int) * m ≤ 254 * 255 := by
      rcases Int.le_total 0 m with h | h
      · exact Int.mul_le_mul (by omega) (by omega) h (by omega)
      · have := Int.mul_nonpos_of_nonneg_of_nonpos (show (0:Int) ≤ (L : Int) by omega) h
        omega
    have e2 : (L : Int) * (-m) ≤ 254 * 255 := by
      rcases Int.le_total 0 (-m) with h | h
      · exact Int.mul_le_mul (by omega) (by omega) h (by omega)
      · have := Int.mul_nonpos_of_nonneg_of_nonpos (show (0:Int) ≤ (L : Int) by omega) h
        omega
    rw [Int.mul_neg] at e2
    omega
  obtain ⟨z, hz⟩ : ∃ z, (L : Int) * m = z := ⟨_, rfl⟩
  rw [hz] at hbd hr
  have hwz : wrap64 z = z := by unfold wrap64; omega
  have HR := Lib.hid hr
  clear hr hbd hml
  go_enter Try.func20, Try.ntmps20
  go_wp2_with fail
  refine (fresh_any w).mono ?_
  rintro e w1 ⟨rfl, ht, hbe, hs⟩
  have hlc := HLC.out _ _ ht
  have HT := Lib.hid ht
  clear ht
  go_wp2_with fail
  refine (power_any _ _ _ HT.out).mono ?_
  rintro e w2 ⟨rfl, rfl⟩
  rw [HR.out]
  go_wp2_with fail
  go_ret
  exact ⟨rfl, hbe⟩
theorem pow_any (w : World) (a : Nat) (n : Int) (ha : a < 256) :
    Calls Try.prog 20 #[.int .u8 a, .int .i64 n] w fun e w' => e = .returned (.int .u8 (powR a n : Nat)) ∧ Below w.heap.size w w' := by
  by_cases hn : n = 0
  · subst hn
    have e : powR a 0 = 1 := rfl
    rw [e]
    clear e
    go_enter Try.func20, Try.ntmps20
    go_wp2_with fail
    go_ret
    exact ⟨rfl, Below.refl _ _⟩
  · by_cases h0 : a = 0
    · subst h0
      have e : powR 0 n = 0 := by unfold powR; rw [if_neg hn, if_pos rfl]
      rw [e]
      have hb : (n == 0) = false := beq_eq_false_iff_ne.2 hn
      clear e
      go_enter Try.func20, Try.ntmps20
      go_wp2_with fail
      go_ret
      exact ⟨rfl, Below.refl _ _⟩
    · have e : powR a n = pwI ((lg a : Int) * n) := by unfold powR; rw [if_neg hn, if_neg h0]
      rw [e]
      exact pow_ok w a n ha (by omega) hn
end Go.Proofs.Ytgmikgjdhldibaa
