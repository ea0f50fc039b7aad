import Derived.Test.YtcfelgjjacpofaaCrcMore
namespace Go.Proofs.Ytcfelgjjacpofaa
open Go.RowKit

theorem sum_any (w : World) (s : ByteArray) (hs : s.size ≤ maxLen) :
    Calls Try.prog 11 #[.string s] w fun e w' => e = .returned (.int .u32 (cmore 0 s.data.toList : Nat)) ∧ Below w.heap.size w w' := by
  go_enter Try.func11, Try.ntmps11
  go_wp2_with fail
  refine (more_any _ 0 (by omega) s hs).mono ?_
  rintro e w1 ⟨rfl, hb1⟩
  go_wp2
  go_ret
  exact ⟨rfl, hb1⟩

theorem shown_val : (((cmore 0 [49, 50, 51, 52, 53, 54, 55, 56, 57] : Nat) : Int) == 3808858755) = true := by decide +kernel

theorem shown2_any (w : World) :
    Calls Try.prog 9 #[] w fun e w' => e = .returned (.bool true) ∧ Below w.heap.size w w' := by
  have hv := shown_val
  go_enter Try.func9, Try.ntmps9
  go_wp2_with fail
  refine (sum_any _ _ (by decide +kernel)).mono ?_
  rintro e w1 ⟨rfl, hb1⟩
  go_wp2
  go_ret
  exact ⟨rfl, hb1⟩
end Go.Proofs.Ytcfelgjjacpofaa
