import Derived.Test.YtgmikgjdhldibaaGfPow
namespace Go.Proofs.Ytgmikgjdhldibaa
open Go.RowKit Go.OpenShut

theorem powR_nz {a : Nat} (h : a ≠ 0) (n : Int) : powR a n = pwI ((lg a : Int) * n) := by
  unfold powR
  by_cases hn : n = 0
  · subst hn; rw [if_pos rfl, Int.mul_zero]; rfl
  · rw [if_neg hn, if_neg h]
theorem powR_one {a : Nat} (ha : a < 256) : powR a 1 = a := by
  by_cases h : a = 0
  · subst h; rfl
  · rw [powR_nz h, Int.mul_one, pwI_nat, (pw_lg ha h).2]
theorem powR_zero (a : Nat) : powR a 0 = 1 := rfl
theorem powR_inv {a : Nat} (ha : a < 256) (h : a ≠ 0) (n : Int) : powR (inv a) n = powR a (-n) := by
  rw [powR_nz (inv_ne a), powR_nz h]
  refine pwI_congr ?_
  obtain ⟨h1, _⟩ := pw_lg ha h
  have h2 : lg (inv a) = (255 - lg a) % 255 := lg_pw (Nat.mod_lt _ (by omega))
  have h3 : ((lg (inv a) : Nat) : Int) = -(lg a : Int) + 255 * (if lg a = 0 then 0 else 1) := by
    rw [h2]
    split <;> omega
  rw [h3, Int.add_mul, Int.mul_assoc, Int.add_mul_emod_self_left, Int.neg_mul, Int.mul_neg]
theorem exp_turn (k : Int) : pw ((k + 255) % 255).toNat = pw (k % 255).toNat ∧ pw ((k - 255) % 255).toNat = pw (k % 255).toNat := by
  constructor <;> congr 2 <;> omega

set_option maxRecDepth 100000 in
set_option maxHeartbeats 4000000 in
theorem gfRound_go (w : World) (a : Nat) (k : Int) (ha : a < 256) (hk : -32768 ≤ k ∧ k ≤ 32767) :
    Calls Try.prog 10 #[.int .u8 a, .int .i16 k] w fun e w' => e = .returned (.bool true) ∧ Below w.heap.size w w' := by
  obtain ⟨x, hx⟩ : ∃ x, invR a = x := ⟨_, rfl⟩
  obtain ⟨f, hf⟩ : ∃ f, (a != 0) = f := ⟨_, rfl⟩
  obtain ⟨E, hE⟩ : ∃ E, pw (k % 255).toNat = E := ⟨_, rfl⟩
  obtain ⟨h1, h2⟩ := exp_turn k
  rw [hE] at h1 h2
  have hxl : x < 256 := by rw [← hx]; exact invR_lt a
  have hpp : f = true → powR x k = powR a (-k) := fun h => by
    rw [h] at hf
    have h0 : a ≠ 0 := by simpa using hf
    rw [← hx, invR_nz h0, powR_inv ha h0]
  obtain ⟨P, hP⟩ : ∃ P, powR a (-k) = P := ⟨_, rfl⟩
  rw [hP] at hpp
  have H0 := Lib.hid hE
  have H1 := Lib.hid h1
  have H2 := Lib.hid h2
  have HX := Lib.hid hx
  have HF := Lib.hid hf
  have HP := Lib.hid hP
  have HPP := Lib.hid hpp
  have HO := Lib.hid (powR_one ha)
  clear hE h1 h2 hx hf hP hpp
  go_enter Try.func10, Try.ntmps10
  go_wp2_with fail
  refine (inv_any _ a ha).mono ?_
  rintro e w1 ⟨rfl, hb1⟩
  rw [HX.out, HF.out]
  go_wp2_with fail
  refine (exp_any _ k).mono ?_
  rintro e w2 ⟨rfl, hb2⟩
  have hbe2 := hb1.trans (hb2.mono hb1.size)
  clear hb1 hb2
  rw [H0.out]
  go_wp2_with fail
  refine (exp_any _ (k + 255)).mono ?_
  rintro e w3 ⟨rfl, hb3⟩
  have hbe3 := hbe2.trans (hb3.mono hbe2.size)
  clear hbe2 hb3
  rw [H1.out]
  go_wp2_with fail
  refine (exp_any _ k).mono ?_
  rintro e w4 ⟨rfl, hb4⟩
  have hbe4 := hbe3.trans (hb4.mono hbe3.size)
  clear hbe3 hb4
  rw [H0.out]
  go_wp2_with fail
  refine (exp_any _ (k - 255)).mono ?_
  rintro e w5 ⟨rfl, hb5⟩
  have hbe5 := hbe4.trans (hb5.mono hbe4.size)
  clear hbe4 hb5
  rw [H2.out]
  cases f
  · go_wp2_with fail
    refine (pow_any _ a 1 ha).mono ?_
    rintro e w6 ⟨rfl, hb6⟩
    have hbe6 := hbe5.trans (hb6.mono hbe5.size)
    clear hbe5 hb6
    rw [HO.out]
    go_wp2_with fail
    refine (pow_any _ a 0 ha).mono ?_
    rintro e w7 ⟨rfl, hb7⟩
    have hbe7 := hbe6.trans (hb7.mono hbe6.size)
    clear hbe6 hb7
    rw [powR_zero]
    go_wp2_with fail
    refine (shown_any _).mono ?_
    rintro e w8 ⟨rfl, hb8⟩
    have hbe8 := hbe7.trans (hb8.mono hbe7.size)
    clear hbe7 hb8
    go_wp2_with fail
    go_ret
    exact ⟨rfl, hbe8⟩
  · go_wp2_with fail
    refine (pow_any _ a (-k) ha).mono ?_
    rintro e w6 ⟨rfl, hb6⟩
    have hbe6 := hbe5.trans (hb6.mono hbe5.size)
    clear hbe5 hb6
    rw [HP.out]
    go_wp2_with fail
    refine (pow_any _ x k hxl).mono ?_
    rintro e w7 ⟨rfl, hb7⟩
    have hbe7 := hbe6.trans (hb7.mono hbe6.size)
    clear hbe6 hb7
    rw [HPP.out trivial]
    go_wp2_with fail
    refine (pow_any _ a 1 ha).mono ?_
    rintro e w8 ⟨rfl, hb8⟩
    have hbe8 := hbe7.trans (hb8.mono hbe7.size)
    clear hbe7 hb8
    rw [HO.out]
    go_wp2_with fail
    refine (pow_any _ a 0 ha).mono ?_
    rintro e w9 ⟨rfl, hb9⟩
    have hbe9 := hbe8.trans (hb9.mono hbe8.size)
    clear hbe8 hb9
    rw [powR_zero]
    go_wp2_with fail
    refine (shown_any _).mono ?_
    rintro e w10 ⟨rfl, hb10⟩
    have hbe10 := hbe9.trans (hb10.mono hbe9.size)
    clear hbe9 hb10
    go_wp2_with fail
    go_ret
    exact ⟨rfl, hbe10⟩

theorem gfRound_walk (a k : Int) (ha : (Lit.int .u8 a).wf = true) (hk : (Lit.int .i16 k).wf = true) (w : World) :
    Calls Try.prog 10 #[.int .u8 a, .int .i16 k] w fun e w' => e = .returned (.bool true) ∧ Below w.heap.size w w' := by
  have h1 := bounds_u8 ha
  have h2 := bounds_i16 hk
  obtain ⟨x, rfl⟩ := Int.eq_ofNat_of_zero_le h1.1
  exact gfRound_go w x k (by omega) (by omega)
end Go.Proofs.Ytgmikgjdhldibaa
