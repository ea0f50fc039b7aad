import Derived.Test.YtcfelgjjacpofaaCrcRef
namespace Go.Proofs.Ytcfelgjjacpofaa
open Go.RowKit Go.OpenShut

/-- what is sealed, as one answer -/
def sealB (s : ByteArray) (size : Int) : Bool := decide (4 ≤ size ∧ size ≤ 4096 ∧ (s.size : Int) ≤ size - 4)
def sealS (s : ByteArray) (size : Int) : ByteArray := if sealB s size then ⟨(sealL s.data.toList (size.toNat - 4)).toArray⟩ else ⟨#[]⟩
def openS (s : ByteArray) : ByteArray := if openB s.data.toList then s.extract 0 (s.size - 4) else ⟨#[]⟩

theorem sealB_no {s : ByteArray} {size : Int} (h : size < 4 ∨ 4096 < size ∨ size - 4 < s.size) : sealB s size = false := by
  unfold sealB
  apply decide_eq_false
  omega
theorem sealB_yes {s : ByteArray} {size : Int} (h : ¬ (size < 4 ∨ 4096 < size ∨ size - 4 < s.size)) : sealB s size = true := by
  unfold sealB
  apply decide_eq_true
  omega

theorem seal_any (w : World) (s : ByteArray) (size : Int) :
    Calls Try.prog 13 #[.string s, .int .i64 size] w fun e w' => e = .returned (.tuple #[.string (sealS s size), .bool (sealB s size)]) ∧ Below w.heap.size w w' := by
  by_cases h : size < 4 ∨ 4096 < size ∨ size - 4 < s.size
  · unfold sealS
    rw [sealB_no h]
    exact (seal_no w s size h).mono fun e w' ⟨he, hw⟩ => ⟨he, by subst hw; exact Below.refl _ _⟩
  · unfold sealS
    rw [sealB_yes h]
    obtain ⟨z, rfl⟩ := Int.eq_ofNat_of_zero_le (show 0 ≤ size by omega)
    rw [Int.toNat_natCast]
    exact seal_yes w s z (z - 4) (by omega) (by omega) (by omega) (by omega)
theorem refSeal_any (w : World) (s : ByteArray) (size : Int) :
    Calls Try.prog 14 #[.string s, .int .i64 size] w fun e w' => e = .returned (.tuple #[.string (sealS s size), .bool (sealB s size)]) ∧ Below w.heap.size w w' := by
  by_cases h : size < 4 ∨ 4096 < size ∨ size - 4 < s.size
  · unfold sealS
    rw [sealB_no h]
    exact (refSeal_no w s size h).mono fun e w' ⟨he, hw⟩ => ⟨he, by subst hw; exact Below.refl _ _⟩
  · unfold sealS
    rw [sealB_yes h]
    obtain ⟨z, rfl⟩ := Int.eq_ofNat_of_zero_le (show 0 ≤ size by omega)
    rw [Int.toNat_natCast]
    exact refSeal_yes w s z (z - 4) (by omega) (by omega) (by omega) (by omega)
theorem openB_short {s : ByteArray} (h : s.size < 4) : openB s.data.toList = false := by
  unfold openB
  rw [decide_eq_false (show ¬ 4 ≤ s.data.toList.length by simp; omega)]
  rfl
theorem open_any (w : World) (s : ByteArray) (hm : s.size ≤ maxLen) :
    Calls Try.prog 15 #[.string s] w fun e w' => e = .returned (.tuple #[.string (openS s), .bool (openB s.data.toList)]) ∧ Below w.heap.size w w' := by
  by_cases h : s.size < 4
  · unfold openS
    rw [openB_short h]
    exact open_short w s h
  · exact open_long w s (s.size - 4) (by omega) hm _ rfl
theorem refOpen_any (w : World) (s : ByteArray) (hm : s.size ≤ maxLen) :
    Calls Try.prog 16 #[.string s] w fun e w' => e = .returned (.tuple #[.string (openS s), .bool (openB s.data.toList)]) ∧ Below w.heap.size w w' := by
  by_cases h : s.size < 4
  · unfold openS
    rw [openB_short h]
    exact refOpen_short w s h
  · exact refOpen_long w s (s.size - 4) (by omega) hm _ rfl

set_option maxHeartbeats 400000 in
theorem crcTells_big (s : ByteArray) (n size : Int) (h : 4096 < s.size) (w : World) :
    Calls Try.prog 6 #[.int .u32 n, .string s, .int .i64 size] w fun e w' => e = .returned (.bool true) ∧ Below w.heap.size w w' := by
  go_enter Try.func6, Try.ntmps6
  go_wp2_with fail
  refine (shown2_any _).mono ?_
  rintro e w1 ⟨rfl, hb1⟩
  go_wp2_with fail
  go_ret
  exact ⟨rfl, hb1⟩

set_option maxHeartbeats 1000000 in
theorem crcTells_small (s : ByteArray) (n : Nat) (hn : n < 4294967296) (size : Int) (h : s.size ≤ 4096) (w : World) :
    Calls Try.prog 6 #[.int .u32 n, .string s, .int .i64 size] w fun e w' => e = .returned (.bool true) ∧ Below w.heap.size w w' := by
  have hm : s.size ≤ maxLen := by unfold maxLen; omega
  have HM := Lib.hid hm
  have HN := Lib.hid hn
  clear hm hn
  go_enter Try.func6, Try.ntmps6
  go_wp2_with fail
  refine (shown2_any _).mono ?_
  rintro e w1 ⟨rfl, hb1⟩
  go_wp2_with fail
  refine (seal_any _ s size).mono ?_
  rintro e w2 ⟨rfl, hb2⟩
  go_wp2_with fail
  refine (refSeal_any _ s size).mono ?_
  rintro e w3 ⟨rfl, hb3⟩
  go_wp2_with fail
  refine (open_any _ s HM.out).mono ?_
  rintro e w4 ⟨rfl, hb4⟩
  go_wp2_with fail
  refine (refOpen_any _ s HM.out).mono ?_
  rintro e w5 ⟨rfl, hb5⟩
  go_wp2_with fail
  refine (more_any _ n HN.out s HM.out).mono ?_
  rintro e w6 ⟨rfl, hb6⟩
  go_wp2_with fail
  refine (refMore_any _ n HN.out s HM.out).mono ?_
  rintro e w7 ⟨rfl, rfl⟩
  go_wp2_with fail
  refine (sum_any _ s HM.out).mono ?_
  rintro e w8 ⟨rfl, hb8⟩
  go_wp2_with fail
  refine (refSum_any _ s HM.out).mono ?_
  rintro e w9 ⟨rfl, rfl⟩
  go_wp2_with fail
  go_ret
  refine ⟨?_, below5 hb1 hb2 hb3 hb4 (hb5.trans ((hb6.trans (hb8.mono hb6.size)).mono hb5.size))⟩
  rfl
theorem crcTells_walk (n : Int) (s : ByteArray) (size : Int) (hn : (Lit.int .u32 n).wf = true) (_hs : s.size ≤ maxLen) (_hz : (Lit.int .i64 size).wf = true) (w : World) :
    Calls Try.prog 6 #[.int .u32 n, .string s, .int .i64 size] w fun e w' => e = .returned (.bool true) ∧ Below w.heap.size w w' := by
  have hb := bounds_u32 hn
  obtain ⟨k, rfl⟩ := Int.eq_ofNat_of_zero_le hb.1
  by_cases h : 4096 < s.size
  · exact crcTells_big s k size h w
  · exact crcTells_small s k (by omega) size (by omega) w
end Go.Proofs.Ytcfelgjjacpofaa
