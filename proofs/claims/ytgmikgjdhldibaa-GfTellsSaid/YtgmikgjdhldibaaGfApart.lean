import Derived.Test.YtgmikgjdhldibaaGfShown
namespace Go.Proofs.Ytgmikgjdhldibaa
open Go.RowKit Go.OpenShut

theorem inv_inv {a : Nat} (ha : a < 256) (h0 : a ≠ 0) : inv (inv a) = a := by
  have h1 := gm_inv (inv_lt a) (inv_ne a)
  have h2 := gm_inv ha h0
  rw [gm_comm ha (inv_lt a)] at h2
  exact gm_cancel (inv_lt a) (inv_lt _) ha (inv_ne a) (h1.trans h2.symm)
theorem inv_inj {a b : Nat} (ha : a < 256) (hb : b < 256) (h0 : a ≠ 0) (h1 : b ≠ 0) (h : inv a = inv b) : a = b := by
  rw [← inv_inv ha h0, h, inv_inv hb h1]

set_option maxHeartbeats 4000000 in
theorem gfApart_go (w : World) (a b c : Nat) (ha : a < 256) (hb : b < 256) (hc : c < 256) :
    Calls Try.prog 4 #[.int .u8 a, .int .u8 b, .int .u8 c] w fun e w' => e = .returned (.bool true) ∧ Below w.heap.size w w' := by
  by_cases h0 : a = 0
  · subst h0
    go_enter Try.func4, Try.ntmps4
    go_wp2_with fail
    refine (mul_any _ 0 b (by omega) hb).mono ?_
    rintro e w1 ⟨rfl, rfl⟩
    rw [gm_zero_left]
    go_wp2_with fail
    refine (shown_any _).mono ?_
    rintro e w1 ⟨rfl, hbe⟩
    go_wp2_with fail
    go_ret
    exact ⟨rfl, hbe⟩
  · have ha0 : ((a : Int) == 0) = false := by simp [h0]
    have ha0' : ((a : Int) != 0) = true := by simp [h0]
    obtain ⟨p, hp⟩ : ∃ p, gm a b = p := ⟨_, rfl⟩
    by_cases hbc : b = c
    · subst hbc
      have HP := Lib.hid hp
      clear hp
      have hbb : ((b : Int) == (b : Int)) = true := by simp
      go_enter Try.func4, Try.ntmps4
      go_wp2_with fail
      refine (mul_any _ a b ha hb).mono ?_
      rintro e w1 ⟨rfl, rfl⟩
      rw [HP.out]
      go_wp2_with fail
      refine (mul_any _ a b ha hb).mono ?_
      rintro e w1 ⟨rfl, rfl⟩
      rw [HP.out]
      go_wp2_with fail
      refine (shown_any _).mono ?_
      rintro e w1 ⟨rfl, hbe⟩
      go_wp2_with fail
      go_ret
      exact ⟨rfl, hbe⟩
    · obtain ⟨r, hr⟩ : ∃ r, gm a c = r := ⟨_, rfl⟩
      have hpr : ((p : Int) == (r : Int)) = false := by
        rw [beq_eq_false_iff_ne]
        intro e
        exact hbc (gm_cancel ha hb hc h0 (by rw [hp, hr]; omega))
      have hbc' : ((b : Int) == (c : Int)) = false := by
        rw [beq_eq_false_iff_ne]
        omega
      have HP := Lib.hid hp
      have HR := Lib.hid hr
      clear hp hr hbc h0
      go_enter Try.func4, Try.ntmps4
      go_wp2_with fail
      refine (mul_any _ a b ha hb).mono ?_
      rintro e w1 ⟨rfl, rfl⟩
      rw [HP.out]
      go_wp2_with fail
      refine (mul_any _ a c ha hc).mono ?_
      rintro e w1 ⟨rfl, rfl⟩
      rw [HR.out]
      go_wp2_with fail
      refine (shown_any _).mono ?_
      rintro e w1 ⟨rfl, hbe⟩
      go_wp2_with fail
      go_ret
      exact ⟨rfl, hbe⟩

theorem gfApart_walk (a b c : Int) (ha : (Lit.int .u8 a).wf = true) (hb : (Lit.int .u8 b).wf = true) (hc : (Lit.int .u8 c).wf = true) (w : World) :
    Calls Try.prog 4 #[.int .u8 a, .int .u8 b, .int .u8 c] w fun e w' => e = .returned (.bool true) ∧ Below w.heap.size w w' := by
  have h1 := bounds_u8 ha
  have h2 := bounds_u8 hb
  have h3 := bounds_u8 hc
  obtain ⟨x, rfl⟩ := Int.eq_ofNat_of_zero_le h1.1
  obtain ⟨y, rfl⟩ := Int.eq_ofNat_of_zero_le h2.1
  obtain ⟨z, rfl⟩ := Int.eq_ofNat_of_zero_le h3.1
  exact gfApart_go w x y z (by omega) (by omega) (by omega)
end Go.Proofs.Ytgmikgjdhldibaa
