import Derived.Test.YtgmikgjdhldibaaGfXor
namespace Go.Proofs.Ytgmikgjdhldibaa
open Go.RowKit Go.OpenShut

set_option maxHeartbeats 1000000 in
theorem shown_any (w : World)  :
    Calls Try.prog 13 #[] w fun e w' => e = .returned (.bool true) ∧ Below w.heap.size w w' := by
  go_enter Try.func13, Try.ntmps13
  go_wp2_with fail
  refine (mul_any _ 2 128 (by omega) (by omega)).mono ?_
  rintro e w1 ⟨rfl, rfl⟩
  rw [show gm 2 128 = 29 by decide]
  go_wp2_with fail
  refine (exp_any _ 8).mono ?_
  rintro e w1 ⟨rfl, hb1⟩
  rw [show pw ((8 : Int) % 255).toNat = 29 by decide]
  go_wp2_with fail
  refine (xor_any _ _ _ (by decide) (by decide)).mono ?_
  rintro e w2 ⟨rfl, hb2⟩
  have hbe := hb1.trans (hb2.mono hb1.size)
  have hx : (⟨(xorL (⟨#[97]⟩ : ByteArray).data.toList (⟨#[97]⟩ : ByteArray).data.toList).toArray⟩ : ByteArray) = ⟨#[0]⟩ := by decide
  rw [hx]
  clear hb1 hb2 hx
  go_wp2_with fail
  go_ret
  exact ⟨rfl, hbe⟩
end Go.Proofs.Ytgmikgjdhldibaa
