import Derived.Test.YtcfelgjjacpofaaCrcParts0
namespace Go.Proofs.Ytcfelgjjacpofaa
open Go.RowKit

theorem crcParts_big (s t : ByteArray) (n : Nat) (h : 2048 < s.size ∨ 2048 < t.size) (_hs : s.size ≤ maxLen) (_ht : t.size ≤ maxLen) (w : World) :
    Calls Try.prog 3 #[.string s, .string t, .int .u32 n] w fun e w' => e = .returned (.bool true) ∧ Below w.heap.size w w' := by
  by_cases h1 : 2048 < s.size
  · clear h
    go_enter Try.func3, Try.ntmps3
    go_wp2_with fail
    refine (shown2_any _).mono ?_
    rintro e w1 ⟨rfl, hb1⟩
    go_wp2_with fail
    go_ret
    exact ⟨rfl, hb1⟩
  · have h2 : 2048 < t.size := by omega
    clear h
    go_enter Try.func3, Try.ntmps3
    go_wp2_with fail
    refine (shown2_any _).mono ?_
    rintro e w1 ⟨rfl, hb1⟩
    go_wp2_with fail
    go_ret
    exact ⟨rfl, hb1⟩

set_option maxHeartbeats 400000 in
theorem crcParts_small (s t : ByteArray) (n : Nat) (hn : n < 4294967296) (h1 : s.size ≤ 2048) (h2 : t.size ≤ 2048) (w : World) :
    Calls Try.prog 3 #[.string s, .string t, .int .u32 n] w fun e w' => e = .returned (.bool true) ∧ Below w.heap.size w w' := by
  have hl : (s ++ t).data.toList = s.data.toList ++ t.data.toList := by simp
  have hz : (s ++ t).size = s.size + t.size := by simp
  go_enter Try.func3, Try.ntmps3
  go_wp2_with fail
  refine (shown2_any _).mono ?_
  rintro e w1 ⟨rfl, hb1⟩
  go_wp2_with fail
  refine (more_any _ n hn s (by unfold maxLen; omega)).mono ?_
  rintro e w2 ⟨rfl, hb2⟩
  go_wp2_with fail
  refine (more_any _ _ (cmore_lt _ _) t (by unfold maxLen; omega)).mono ?_
  rintro e w3 ⟨rfl, hb3⟩
  go_wp2_with fail
  refine (more_any _ n hn (s ++ t) (by unfold maxLen; omega)).mono ?_
  rintro e w4 ⟨rfl, hb4⟩
  rw [hl, cmore_append]
  go_wp2_with fail
  refine (more_any _ n hn _ (by unfold maxLen; decide)).mono ?_
  rintro e w5 ⟨rfl, hb5⟩
  rw [show cmore n (ByteArray.mk #[]).data.toList = n from cmore_nil n hn]
  go_wp2_with fail
  go_ret
  exact ⟨rfl, hb1.trans ((hb2.trans ((hb3.trans ((hb4.trans (hb5.mono hb4.size)).mono hb3.size)).mono hb2.size)).mono hb1.size)⟩

theorem crcParts_walk (s t : ByteArray) (n : Int) (hs : s.size ≤ maxLen) (ht : t.size ≤ maxLen) (hn : (Lit.int .u32 n).wf = true) (w : World) :
    Calls Try.prog 3 #[.string s, .string t, .int .u32 n] w fun e w' => e = .returned (.bool true) ∧ Below w.heap.size w w' := by
  have hb := bounds_u32 hn
  obtain ⟨k, rfl⟩ := Int.eq_ofNat_of_zero_le hb.1
  by_cases h : 2048 < s.size ∨ 2048 < t.size
  · exact crcParts_big s t k h hs ht w
  · exact crcParts_small s t k (by omega) (by omega) (by omega) w
end Go.Proofs.Ytcfelgjjacpofaa
