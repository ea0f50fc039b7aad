import Derived.Test.YtcfelgjjacpofaaCrcTells
namespace Go.Proofs.Ytcfelgjjacpofaa
open Go.RowKit Go.OpenShut

theorem openB_seal (l : List UInt8) (m : Nat) (h : l.length ≤ m) : openB (sealL l m) = true := by
  have hl := sealL_length l m h
  have hp := padL_length l m h
  unfold openB
  rw [hl, show m + 4 - 4 = m by omega]
  have h1 : (sealL l m).take m = padL l m := by
    unfold sealL
    rw [List.take_append_of_le_length (by omega), List.take_of_length_le (by omega)]
  have h2 : (sealL l m).drop m = le32 (cmore 0 (padL l m)) := by
    unfold sealL
    rw [List.drop_append_of_le_length (by omega), List.drop_of_length_le (by omega), List.nil_append]
  rw [h1, h2]
  simp
theorem openS_seal (l : List UInt8) (m : Nat) (h : l.length ≤ m) : openS ⟨(sealL l m).toArray⟩ = ⟨(padL l m).toArray⟩ := by
  have hl := sealL_length l m h
  have hp := padL_length l m h
  unfold openS
  rw [show (ByteArray.mk (sealL l m).toArray).data.toList = sealL l m from rfl, openB_seal l m h]
  simp only [if_true]
  apply ByteArray.ext
  apply Array.toList_inj.1
  rw [extract_list]
  show (sealL l m).take (Array.size _ - 4) = padL l m
  rw [List.size_toArray, hl, show m + 4 - 4 = m by omega]
  unfold sealL
  rw [List.take_append_of_le_length (by omega), List.take_of_length_le (by omega)]

theorem crcSeals_big (s : ByteArray) (size : Int) (h : 200 < s.size) (w : World) :
    Calls Try.prog 8 #[.string s, .int .u16 size] w fun e w' => e = .returned (.bool true) ∧ Below w.heap.size w w' := by
  go_enter Try.func8, Try.ntmps8
  go_wp2_with fail
  refine (shown2_any _).mono ?_
  rintro e w1 ⟨rfl, hb1⟩
  go_wp2_with fail
  go_ret
  exact ⟨rfl, hb1⟩

set_option maxHeartbeats 1000000 in
theorem crcSeals_no (s : ByteArray) (size n : Nat) (hu : size < 65536) (h : s.size ≤ 200) (hn : size % 300 = n) (hno : n < 4 ∨ n - 4 < s.size) (w : World) :
    Calls Try.prog 8 #[.string s, .int .u16 size] w fun e w' => e = .returned (.bool true) ∧ Below w.heap.size w w' := by
  have hmod : (size : Int) % 300 = (n : Int) := by omega
  have hS : sealS s n = ⟨#[]⟩ := by unfold sealS; rw [sealB_no (by omega)]; rfl
  have hB : sealB s n = false := sealB_no (by omega)
  have hd : (decide (4 ≤ (n : Int)) && decide ((s.size : Int) ≤ (n : Int) - 4)) = false := by simp; omega
  have HN := Lib.hid hn
  have HNO := Lib.hid hno
  clear hn hno
  by_cases h4 : 4 ≤ n
  · have hlt : ¬ (s.size : Int) ≤ (n : Int) - 4 := by have := HNO.out; omega
    go_enter Try.func8, Try.ntmps8
    go_wp2_with fail
    refine (shown2_any _).mono ?_
    rintro e w1 ⟨rfl, hb1⟩
    go_wp2_with fail
    refine (seal_any _ s n).mono ?_
    rintro e w2 ⟨rfl, hb2⟩
    rw [hS, hB]
    clear hS hB
    go_wp2_with fail
    go_ret
    exact ⟨rfl, hb1.trans (hb2.mono hb1.size)⟩
  · go_enter Try.func8, Try.ntmps8
    go_wp2_with fail
    refine (shown2_any _).mono ?_
    rintro e w1 ⟨rfl, hb1⟩
    go_wp2_with fail
    refine (seal_any _ s n).mono ?_
    rintro e w2 ⟨rfl, hb2⟩
    rw [hS, hB]
    clear hS hB
    go_wp2_with fail
    go_ret
    exact ⟨rfl, hb1.trans (hb2.mono hb1.size)⟩

set_option maxHeartbeats 1000000 in
theorem crcSeals_yes (s : ByteArray) (size n m : Nat) (hu : size < 65536) (h : s.size ≤ 200) (hn : size % 300 = n) (hm : n = m + 4) (hle : s.size ≤ m) (w : World) :
    Calls Try.prog 8 #[.string s, .int .u16 size] w fun e w' => e = .returned (.bool true) ∧ Below w.heap.size w w' := by
  have hmod : (size : Int) % 300 = (n : Int) := by omega
  have hS : sealS s n = ⟨(sealL s.data.toList m).toArray⟩ := by
    unfold sealS
    rw [sealB_yes (by omega), hm]
    rw [show ((m + 4 : Nat) : Int).toNat - 4 = m by omega]
    rfl
  have hB : sealB s n = true := sealB_yes (by omega)
  have hlen : s.data.toList.length ≤ m := by simpa using hle
  have hO := openS_seal s.data.toList m hlen
  have hOB := openB_seal s.data.toList m hlen
  have hsub : (n : Int) - 4 = (m : Int) := by omega
  have hn4 : 4 ≤ n := by omega
  have hn3 : n < 300 := by omega
  have hle' : (s.size : Int) ≤ (m : Int) := by omega
  have HN := Lib.hid hn
  have HM := Lib.hid hm
  clear hn hm
  have hsz : (ByteArray.mk (sealL s.data.toList m).toArray).size = n := by
    show Array.size _ = _
    rw [List.size_toArray, sealL_length _ _ hlen, HM.out]
  have hpz : (ByteArray.mk (padL s.data.toList m).toArray).size = m := by
    show Array.size _ = _
    rw [List.size_toArray, padL_length _ _ hlen]
  have hpre : (ByteArray.mk (padL s.data.toList m).toArray).extract 0 s.size = s := by
    apply ByteArray.ext
    apply Array.toList_inj.1
    rw [extract_list]
    show (padL s.data.toList m).take s.size = _
    unfold padL
    rw [List.take_append_of_le_length (by simp), List.take_of_length_le (by simp)]
  have hzero : ∀ k, s.size ≤ k → k < m → ∀ hk : k < (ByteArray.mk (padL s.data.toList m).toArray).size, (ByteArray.mk (padL s.data.toList m).toArray)[k].toNat = 0 := by
    intro k h1 h2 hk
    show (padL s.data.toList m).toArray[k].toNat = 0
    have : (padL s.data.toList m)[k]? = some 0 := by
      unfold padL
      rw [List.getElem?_append_right (by simpa using h1), List.getElem?_replicate, if_pos]
      have : s.data.toList.length = s.size := by simp
      omega
    have h3 : (padL s.data.toList m)[k]'(by rw [padL_length _ _ hlen]; exact h2) = 0 := by
      rw [List.getElem?_eq_getElem (by rw [padL_length _ _ hlen]; exact h2)] at this
      exact Option.some.inj this
    simp [h3]
  have hOB' : openB (ByteArray.mk (sealL s.data.toList m).toArray).data.toList = true := hOB
  clear hOB
  generalize ByteArray.mk (padL s.data.toList m).toArray = x at *
  generalize ByteArray.mk (sealL s.data.toList m).toArray = t at *
  have ht1 : ((t.size : Int) != (n : Int)) = false := by rw [hsz]; simp
  have hx1 : ((x.size : Int) != (m : Int)) = false := by rw [hpz]; simp
  have hx2 : m ≤ x.size := by omega
  have hx3 : s.size ≤ x.size := by omega
  have hx4 : x.size ≤ m := by omega
  have hmx : t.size ≤ maxLen := by unfold maxLen; omega
  have HMX := Lib.hid hmx
  have HZ := Lib.hid hzero
  clear hsz hpz hmx hzero
  go_enter Try.func8, Try.ntmps8
  go_wp2_with fail
  refine (shown2_any _).mono ?_
  rintro e w1 ⟨rfl, hb1⟩
  go_wp2_with fail
  refine (seal_any _ s n).mono ?_
  rintro e w2 ⟨rfl, hb2⟩
  rw [hS, hB]
  clear hS hB
  go_wp2_with fail
  refine (open_any _ t HMX.out).mono ?_
  rintro e w3 ⟨rfl, hb3⟩
  rw [hO, hOB']
  clear hO hOB'
  have hbel := hb1.trans ((hb2.trans (hb3.mono hb2.size)).mono hb1.size)
  clear hb1 hb2 hb3
  go_wp2_with fail
  go_loop [10] (fun i => ∃ k : Nat, s.size ≤ k ∧ k ≤ m ∧ i = .int .i64 k) (fun i => m - (intOf i).toNat)
  case atStart => exact ⟨s.size, by omega, by omega, rfl⟩
  case round =>
    obtain ⟨k, hk1, hk2, rfl⟩ := hrel
    by_cases hlt : k < m
    · have hkx : k < x.size := by omega
      have hz := HZ.out k hk1 hlt hkx
      have hzb : ((x[k].toNat : Int) != 0) = false := by rw [hz]; rfl
      clear hz
      go_wp2
      go_round
      case rel => exact ⟨k + 1, by omega, by omega, by go_num⟩
      case measure => simp [intOf]; omega
    · go_wp2
      go_ret
      exact ⟨rfl, hbel⟩

theorem crcSeals_walk (s : ByteArray) (size : Int) (_hs : s.size ≤ maxLen) (hu : (Lit.int .u16 size).wf = true) (w : World) :
    Calls Try.prog 8 #[.string s, .int .u16 size] w fun e w' => e = .returned (.bool true) ∧ Below w.heap.size w w' := by
  have hb := bounds_u16 hu
  obtain ⟨z, rfl⟩ := Int.eq_ofNat_of_zero_le hb.1
  by_cases h : 200 < s.size
  · exact crcSeals_big s z h w
  · by_cases h2 : z % 300 < 4 ∨ z % 300 - 4 < s.size
    · exact crcSeals_no s z _ (by omega) (by omega) rfl h2 w
    · exact crcSeals_yes s z (z % 300) (z % 300 - 4) (by omega) (by omega) rfl (by omega) (by omega) w
end Go.Proofs.Ytcfelgjjacpofaa
