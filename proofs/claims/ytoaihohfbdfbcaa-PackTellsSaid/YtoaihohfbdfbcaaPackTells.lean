import Derived.Test.YtoaihohfbdfbcaaPackRefD
namespace Go.Proofs.Ytoaihohfbdfbcaa
open Go.RowKit Go.OpenShut

set_option maxHeartbeats 1000000 in
theorem packTells_big (w : World) (A : Option Addr) (n c : Nat) (A' : Option Addr) (m c' : Nat) (s : ByteArray) (x y : Int) (h : 100 < n ∨ 100 < m ∨ 600 < s.size) :
    Calls Try.prog 5 #[.slice A n c, .slice A' m c', .string s, .int .u64 x, .int .i64 y] w fun e w' => e = .returned (.bool true) ∧ Below w.heap.size w w' := by
  by_cases h1 : 100 < n
  · clear h
    go_enter Try.func5, Try.ntmps5
    go_wp2_with fail
    refine (shown_any _).mono ?_
    rintro e w2 ⟨rfl, hb2⟩
    go_wp2_with fail
    go_ret
    exact ⟨rfl, hb2⟩
  · by_cases h2 : 100 < m
    · clear h
      go_enter Try.func5, Try.ntmps5
      go_wp2_with fail
      refine (shown_any _).mono ?_
      rintro e w2 ⟨rfl, hb2⟩
      go_wp2_with fail
      go_ret
      exact ⟨rfl, hb2⟩
    · have h3 : 600 < s.size := by omega
      clear h
      go_enter Try.func5, Try.ntmps5
      go_wp2_with fail
      refine (shown_any _).mono ?_
      rintro e w2 ⟨rfl, hb2⟩
      go_wp2_with fail
      go_ret
      exact ⟨rfl, hb2⟩

set_option maxHeartbeats 4000000 in
theorem packTells_ok (w : World) (A : Option Addr) (n c : Nat) (A' : Option Addr) (m c' : Nat) (s : ByteArray) (x : Nat) (y : Int) (h1 : n ≤ 100) (h2 : m ≤ 100) (h3 : s.size ≤ 600) (ls ws : List Int)
    (hl : IntsA w w.heap.size .u64 A n ls) (hw : IntsA w w.heap.size .i64 A' m ws) (hu : ∀ x ∈ ls, 0 ≤ x ∧ x < 18446744073709551616) (hx : x < 18446744073709551616) :
    Calls Try.prog 5 #[.slice A n c, .slice A' m c', .string s, .int .u64 x, .int .i64 y] w fun e w' => e = .returned (.bool true) ∧ Below w.heap.size w w' := by
  have HU := Lib.hid hu
  clear hu
  go_enter Try.func5, Try.ntmps5
  go_wp2_with fail
  refine (shown_any _).mono ?_
  rintro e w1 ⟨rfl, hb1⟩
  have hl1 := (hl.below hb1).mono hb1.size
  have hw1 := (hw.below hb1).mono hb1.size
  go_wp2_with fail
  refine (encode_any w1 A A' n c m c' ls ws hl1 hw1 (by omega) HU.out).mono ?_
  rintro e w2 ⟨rfl, hb2⟩
  have hl2 := (hl1.below hb2).mono hb2.size
  have hw2 := (hw1.below hb2).mono hb2.size
  have hbe2 := hb1.trans (hb2.mono hb1.size)
  clear hl1 hw1 hb1 hb2
  go_wp2_with fail
  refine (refEncode_any w2 A A' n c m c' ls ws hl2 hw2 HU.out).mono ?_
  rintro e w3 ⟨rfl, hb3⟩
  have hw3 := (hw2.below hb3).mono hb3.size
  have hbe3 := hbe2.trans (hb3.mono hbe2.size)
  generalize encS ls ws = eS at *
  generalize encE ls ws = eE at *
  clear hl2 hw2 hb3 hbe2
  go_wp2_with fail
  refine (decode_any w3 s A' m c' ws hw3 (by omega)).mono ?_
  rintro e w4 ⟨B1, n1, c1, rfl, hd4, hb4⟩
  have hw4 := (hw3.below hb4).mono hb4.size
  have hbe4 := hbe3.trans (hb4.mono hbe3.size)
  clear hw3 hb4 hbe3
  go_wp2_with fail
  refine (refDecode_any w4 s A' m c' ws hw4).mono ?_
  rintro e w5 ⟨B2, n2, c2, rfl, hr5, hb5⟩
  have hw5 := (hw4.below hb5).mono hb5.size
  have hd5 := (hd4.below hb5).mono hb5.size
  have hbe5 := hbe4.trans (hb5.mono hbe4.size)
  generalize decE ws s = dE at *
  have hn1 := hd5.1
  have hn2 := hr5.1
  have hbd : (decX ws s).length ≤ 100 := by
    unfold decX
    split
    · rw [List.length_map, decL_len, hw.1]; exact h2
    · simp
  rw [hn1] at hbd
  have hn12 : n1 = n2 := by omega
  clear hn1 hn2
  generalize decX ws s = dX at *
  clear hw4 hd4 hb5 hbe4
  go_wp2_with fail
  refine (size_any w5 w5.heap.size A' m c' ws hw5 (by omega)).mono ?_
  rintro e w6 ⟨rfl, rfl⟩
  go_wp2_with fail
  refine (refSize_any w5 A' m c' ws hw5).mono ?_
  rintro e w6 ⟨rfl, rfl⟩
  generalize sizeN ws = sN at *
  generalize sizeE ws = sE at *
  subst hn12
  have HD := Lib.hid hd5
  have HR := Lib.hid hr5
  have HB := Lib.hid hbd
  have HXX := Lib.hid hx
  clear hw5 hbd hd5 hr5 hl hw hx h1 h2 h3 HU
  go_wp2_with fail
  refine (same_any w5 B1 B2 n1 c1 n1 c2 dX dX HD.out HR.out (by have := HB.out; omega) (by have := HB.out; omega)).mono ?_
  rintro e w6 ⟨rfl, hb6⟩
  rw [show sameP dX dX = true by unfold sameP; simp]
  have hbe6 := hbe5.trans (hb6.mono hbe5.size)
  clear hb6 hbe5
  go_wp2_with fail
  refine (fits_any _ x HXX.out y).mono ?_
  rintro e w7 ⟨rfl, rfl⟩
  go_wp2_with fail
  refine (refFits_any _ x HXX.out y).mono ?_
  rintro e w7 ⟨rfl, rfl⟩
  generalize fitsB x y = fB at *
  cases fB
  · go_wp2_with fail
    go_ret
    exact ⟨rfl, hbe6⟩
  · go_wp2_with fail
    go_ret
    exact ⟨rfl, hbe6⟩

theorem packTells_walk (A : Option Addr) (n c : Nat) (zs : List Int) (A' : Option Addr) (m c' : Nat) (zs' : List Int) (s : ByteArray) (x y : Int) (w : World) (h : RowIn .u64 w A n c zs) (h' : RowIn .i64 w A' m c' zs') (_hs : s.size ≤ maxLen) (hx : (Lit.int .u64 x).wf = true) (_hy : (Lit.int .i64 y).wf = true) :
    Calls Try.prog 5 #[.slice A n c, .slice A' m c', .string s, .int .u64 x, .int .i64 y] w fun e w' => e = .returned (.bool true) ∧ Below w.heap.size w w' := by
  obtain ⟨hl, hu, _⟩ := h.ints
  obtain ⟨hl', _, _⟩ := h'.ints
  have hb := bounds_u64 hx
  obtain ⟨z, rfl⟩ := Int.eq_ofNat_of_zero_le hb.1
  by_cases hbig : 100 < n ∨ 100 < m ∨ 600 < s.size
  · exact packTells_big w A n c A' m c' s z y hbig
  · exact packTells_ok w A n c A' m c' s z y (by omega) (by omega) (by omega) _ _ hl hl' (fun x hx => by have := bounds_u64 (hu x hx); omega) (by omega)
end Go.Proofs.Ytoaihohfbdfbcaa
