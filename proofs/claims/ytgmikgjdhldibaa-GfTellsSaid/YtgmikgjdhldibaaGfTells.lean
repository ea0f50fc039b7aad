import Derived.Test.YtgmikgjdhldibaaGfRef2
namespace Go.Proofs.Ytgmikgjdhldibaa
open Go.RowKit Go.OpenShut

set_option maxHeartbeats 4000000 in
theorem gfTells_go (w : World) (a b : Nat) (n : Int) (ha : a < 256) (hb : b < 256) :
    Calls Try.prog 11 #[.int .u8 a, .int .u8 b, .int .i64 n] w fun e w' => e = .returned (.bool true) ∧ Below w.heap.size w w' := by
  have HA := Lib.hid ha
  have HB := Lib.hid hb
  clear ha hb
  go_enter Try.func11, Try.ntmps11
  go_wp2_with fail
  refine (inv_any _ a HA.out).mono ?_
  rintro e w1 ⟨rfl, hbe1⟩
  go_wp2_with fail
  refine (refInv_any _ a HA.out).mono ?_
  rintro e w2 ⟨rfl, rfl⟩
  generalize invR a = x at *
  generalize (a != 0) = f at *
  go_wp2_with fail
  refine (div_any _ a b HA.out HB.out).mono ?_
  rintro e w2 ⟨rfl, hb2⟩
  have hbe2 := hbe1.trans (hb2.mono hbe1.size)
  clear hbe1 hb2
  go_wp2_with fail
  refine (refDiv_any _ a b HA.out HB.out).mono ?_
  rintro e w3 ⟨rfl, rfl⟩
  generalize gm a (invR b) = z at *
  generalize (b != 0) = g at *
  go_wp2_with fail
  refine (log_any _ a HA.out).mono ?_
  rintro e w3 ⟨rfl, hb3⟩
  have hbe3 := hbe2.trans (hb3.mono hbe2.size)
  clear hbe2 hb3
  go_wp2_with fail
  refine (refLog_any _ a HA.out).mono ?_
  rintro e w4 ⟨rfl, rfl⟩
  generalize lgR a = L at *
  generalize (a != 0) = h at *
  cases f
  all_goals cases g
  all_goals cases h
  all_goals
    go_wp2_with fail
    refine (mul_any _ a b HA.out HB.out).mono ?_
    rintro e w4 ⟨rfl, rfl⟩
    go_wp2_with fail
    refine (refMul_any _ a b HA.out HB.out).mono ?_
    rintro e w4 ⟨rfl, rfl⟩
    generalize gm a b = p at *
    go_wp2_with fail
    refine (pow_any _ a n HA.out).mono ?_
    rintro e w5 ⟨rfl, hb5⟩
    have hbe5 := hbe3.trans (hb5.mono hbe3.size)
    clear hbe3 hb5
    go_wp2_with fail
    refine (refPow_any _ a n HA.out).mono ?_
    rintro e w6 ⟨rfl, rfl⟩
    generalize powR a n = q at *
    go_wp2_with fail
    refine (exp_any _ n).mono ?_
    rintro e w6 ⟨rfl, hb6⟩
    have hbe6 := hbe5.trans (hb6.mono hbe5.size)
    clear hbe5 hb6
    go_wp2_with fail
    refine (refExp_any _ n).mono ?_
    rintro e w7 ⟨rfl, rfl⟩
    generalize pw (n % 255).toNat = r at *
    go_wp2_with fail
    refine (shown_any _).mono ?_
    rintro e w7 ⟨rfl, hb7⟩
    have hbe7 := hbe6.trans (hb7.mono hbe6.size)
    clear hbe6 hb7
    go_wp2_with fail
    go_ret
    exact ⟨rfl, hbe7⟩

theorem gfTells_walk (a b n : Int) (ha : (Lit.int .u8 a).wf = true) (hb : (Lit.int .u8 b).wf = true) (_hn : (Lit.int .i64 n).wf = true) (w : World) :
    Calls Try.prog 11 #[.int .u8 a, .int .u8 b, .int .i64 n] w fun e w' => e = .returned (.bool true) ∧ Below w.heap.size w w' := by
  have h1 := bounds_u8 ha
  have h2 := bounds_u8 hb
  obtain ⟨x, rfl⟩ := Int.eq_ofNat_of_zero_le h1.1
  obtain ⟨y, rfl⟩ := Int.eq_ofNat_of_zero_le h2.1
  exact gfTells_go w x y n (by omega) (by omega)
end Go.Proofs.Ytgmikgjdhldibaa
