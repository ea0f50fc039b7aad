import Derived.Test.YtcfelgjjacpofaaCrcParts0
import Derived.Test.YtcfelgjjacpofaaXor1
namespace Go.Proofs.Ytcfelgjjacpofaa
open Go.RowKit Go.OpenShut

theorem zipX_getElem? (l m : List UInt8) (i : Nat) (_h : l.length = m.length) (hi : i < l.length) : (zipX l m)[i]? = some (l.getD i 0 ^^^ m.getD i 0) := by
  have h2 : i < m.length := by omega
  simp [zipX, List.getElem?_zipWith, hi, h2, List.getD]
theorem xorL_zip (l m : List UInt8) (h : l.length = m.length) : xorL l m = zipX l m := by
  apply List.ext_getElem?
  intro i
  by_cases hi : i < l.length
  · rw [zipX_getElem? l m i h hi]
    simp [xorL, show i < max l.length m.length by omega]
  · rw [List.getElem?_eq_none (by rw [xorL_length]; omega), List.getElem?_eq_none (by simp [zipX]; omega)]

theorem extract_list (s : ByteArray) (n : Nat) : (s.extract 0 n).data.toList = s.data.toList.take n := by
  simp
theorem below5 {w w1 w2 w3 w4 w5 : World} (h1 : Below w.heap.size w w1) (h2 : Below w1.heap.size w1 w2) (h3 : Below w2.heap.size w2 w3) (h4 : Below w3.heap.size w3 w4) (h5 : Below w4.heap.size w4 w5) : Below w.heap.size w w5 :=
  h1.trans ((h2.trans ((h3.trans ((h4.trans (h5.mono h4.size)).mono h3.size)).mono h2.size)).mono h1.size)

set_option maxHeartbeats 1000000 in
theorem crcLinear_walk (s t u : ByteArray) (_hs : s.size ≤ maxLen) (_ht : t.size ≤ maxLen) (_hu : u.size ≤ maxLen) (w : World) :
    Calls Try.prog 4 #[.string s, .string t, .string u] w fun e w' => e = .returned (.bool true) ∧ Below w.heap.size w w' := by
  obtain ⟨n, hn, h1, h2, h3, h4⟩ : ∃ n : Nat, min (min (min (s.size : Int) (t.size : Int)) (u.size : Int)) 2048 = (n : Int) ∧ n ≤ s.size ∧ n ≤ t.size ∧ n ≤ u.size ∧ n ≤ 2048 :=
    ⟨min (min (min s.size t.size) u.size) 2048, by omega, by omega, by omega, by omega, by omega⟩
  have hmin := fun w => run_min4 (P := Try.prog) #[3, 3, 3, 3] 3 .i64 (s.size : Int) (t.size : Int) (u.size : Int) 2048 w
  rw [hn] at hmin
  clear hn
  go_enter Try.func4, Try.ntmps4
  go_wp2_with fail
  clear hmin
  obtain ⟨a, ha⟩ : ∃ a, s.extract 0 n = a := ⟨_, rfl⟩
  obtain ⟨b, hb⟩ : ∃ b, t.extract 0 n = b := ⟨_, rfl⟩
  obtain ⟨c, hc⟩ : ∃ c, u.extract 0 n = c := ⟨_, rfl⟩
  rw [ha, hb, hc]
  have la : a.data.toList.length = n := by rw [← ha, extract_list, List.length_take]; simp; omega
  have lb : b.data.toList.length = n := by rw [← hb, extract_list, List.length_take]; simp; omega
  have lc : c.data.toList.length = n := by rw [← hc, extract_list, List.length_take]; simp; omega
  clear ha hb hc
  have ea : xorL a.data.toList b.data.toList = zipX a.data.toList b.data.toList := xorL_zip _ _ (by omega)
  have lx : (zipX a.data.toList b.data.toList).length = n := by simp only [zipX, List.length_zipWith]; omega
  have ec : xorL (zipX a.data.toList b.data.toList) c.data.toList = zipX (zipX a.data.toList b.data.toList) c.data.toList := xorL_zip _ _ (by omega)
  have ly : (zipX (zipX a.data.toList b.data.toList) c.data.toList).length = n := by
    rw [← ec, xorL_length]; omega
  have hthree := cmore_three a.data.toList b.data.toList c.data.toList (by omega) (by omega)
  have za : a.size ≤ 2048 := by rw [← ByteArray.size_data, ← Array.length_toList]; omega
  have zb : b.size ≤ 2048 := by rw [← ByteArray.size_data, ← Array.length_toList]; omega
  have zc : c.size ≤ 2048 := by rw [← ByteArray.size_data, ← Array.length_toList]; omega
  have HA := Lib.hid la
  have HEA := Lib.hid ea
  have HEC := Lib.hid ec
  have HT := Lib.hid hthree
  have HLX := Lib.hid lx
  have HLY := Lib.hid ly
  clear la lb lc ea ec hthree lx ly
  refine (refXor_any _ a b (by omega) (by omega)).mono ?_
  rintro e w1 ⟨rfl, hb1⟩
  rw [HEA.out]
  go_wp2_with fail
  refine (refXor_any _ ⟨_⟩ c (by show Array.size _ ≤ _; rw [List.size_toArray, HLX.out]; omega) (by omega)).mono ?_
  rintro e w2 ⟨rfl, hb2⟩
  simp only [HEC.out]
  go_wp2_with fail
  refine (sum_any _ ⟨_⟩ (by show Array.size _ ≤ _; rw [List.size_toArray, HLY.out]; unfold maxLen; omega)).mono ?_
  rintro e w3 ⟨rfl, hb3⟩
  go_wp2_with fail
  refine (sum_any _ a (by unfold maxLen; omega)).mono ?_
  rintro e w4 ⟨rfl, hb4⟩
  go_wp2_with fail
  refine (sum_any _ b (by unfold maxLen; omega)).mono ?_
  rintro e w5 ⟨rfl, hb5⟩
  go_wp2_with fail
  refine (sum_any _ c (by unfold maxLen; omega)).mono ?_
  rintro e w6 ⟨rfl, hb6⟩
  have lp := cmore_lt 0 a.data.toList
  have lq := cmore_lt 0 b.data.toList
  have lr := cmore_lt 0 c.data.toList
  generalize cmore 0 (zipX (zipX a.data.toList b.data.toList) c.data.toList) = z at *
  generalize cmore 0 a.data.toList = p at *
  generalize cmore 0 b.data.toList = q at *
  generalize cmore 0 c.data.toList = r at *
  have hz : ((z : Int) == bits BinOp.xor IntKind.u32 (bits BinOp.xor IntKind.u32 (p : Int) (q : Int)) (r : Int)) = true := by
    rw [u32_xor_nat _ _ lp lq, u32_xor_nat _ _ (Nat.xor_lt_two_pow (n := 32) lp lq) lr, HT.out]
    simp
  go_wp2_with fail
  refine (shown2_any _).mono ?_
  rintro e w7 ⟨rfl, hb7⟩
  go_wp2_with fail
  go_ret
  exact ⟨rfl, below5 hb1 hb2 hb3 hb4 (hb5.trans ((hb6.trans (hb7.mono hb6.size)).mono hb5.size))⟩
end Go.Proofs.Ytcfelgjjacpofaa
