import Derived.Test.YtgmikgjdhldibaaGfRef
namespace Go.Proofs.Ytgmikgjdhldibaa
open Go.RowKit Go.OpenShut

set_option maxHeartbeats 1000000 in
theorem gfTexts_big (w : World) (s t : ByteArray) (b : Int) (h : 1024 < s.size ∨ 1024 < t.size) :
    Calls Try.prog 7 #[.string s, .string t, .int .u8 b] w fun e w' => e = .returned (.bool true) ∧ Below w.heap.size w w' := by
  by_cases h1 : 1024 < s.size
  · clear h
    go_enter Try.func7, Try.ntmps7
    go_wp2_with fail
    refine (shown_any _).mono ?_
    rintro e w2 ⟨rfl, hb2⟩
    go_wp2_with fail
    go_ret
    exact ⟨rfl, hb2⟩
  · have h2 : 1024 < t.size := by omega
    clear h
    go_enter Try.func7, Try.ntmps7
    go_wp2_with fail
    refine (shown_any _).mono ?_
    rintro e w2 ⟨rfl, hb2⟩
    go_wp2_with fail
    go_ret
    exact ⟨rfl, hb2⟩

set_option maxHeartbeats 4000000 in
theorem gfTexts_ok (w : World) (s t : ByteArray) (b : Nat) (hb : b < 256) (h1 : s.size ≤ 1024) (h2 : t.size ≤ 1024) :
    Calls Try.prog 7 #[.string s, .string t, .int .u8 b] w fun e w' => e = .returned (.bool true) ∧ Below w.heap.size w w' := by
  go_enter Try.func7, Try.ntmps7
  go_wp2_with fail
  refine (shown_any _).mono ?_
  rintro e w2 ⟨rfl, hbe2⟩
  go_wp2_with fail
  refine (times_any _ s b (by omega) hb).mono ?_
  rintro e w3 ⟨rfl, hb3⟩
  have hbe3 := hbe2.trans (hb3.mono hbe2.size)
  clear hbe2 hb3
  go_wp2_with fail
  refine (refTimes_any _ s b (by omega) hb).mono ?_
  rintro e w4 ⟨rfl, hb4⟩
  have hbe4 := hbe3.trans (hb4.mono hbe3.size)
  clear hbe3 hb4
  generalize (⟨(mulL s.data.toList b).toArray⟩ : ByteArray) = P at *
  go_wp2_with fail
  refine (xor_any _ s t (by omega) (by omega)).mono ?_
  rintro e w5 ⟨rfl, hb5⟩
  have hbe5 := hbe4.trans (hb5.mono hbe4.size)
  clear hbe4 hb5
  go_wp2_with fail
  refine (refXor_any _ s t (by omega) (by omega)).mono ?_
  rintro e w6 ⟨rfl, hb6⟩
  have hbe6 := hbe5.trans (hb6.mono hbe5.size)
  clear hbe5 hb6
  generalize (⟨(xorL s.data.toList t.data.toList).toArray⟩ : ByteArray) = Q at *
  go_wp2_with fail
  go_ret
  exact ⟨rfl, hbe6⟩

theorem gfTexts_walk (s t : ByteArray) (b : Int) (_hs : s.size ≤ maxLen) (_ht : t.size ≤ maxLen) (hb : (Lit.int .u8 b).wf = true) (w : World) :
    Calls Try.prog 7 #[.string s, .string t, .int .u8 b] w fun e w' => e = .returned (.bool true) ∧ Below w.heap.size w w' := by
  have h2 := bounds_u8 hb
  obtain ⟨y, rfl⟩ := Int.eq_ofNat_of_zero_le h2.1
  by_cases h : 1024 < s.size ∨ 1024 < t.size
  · exact gfTexts_big w s t y h
  · exact gfTexts_ok w s t y (by omega) (by omega) (by omega)
end Go.Proofs.Ytgmikgjdhldibaa
