import Derived.Test.YtcfelgjjacpofaaCrcBurst0
namespace Go.Proofs.Ytcfelgjjacpofaa
open Go.RowKit Go.OpenShut

set_option maxHeartbeats 400000 in
theorem crcBursts_no (s : ByteArray) (a b : Int) (h : 1024 < s.size ∨ b = 0) (w : World) :
    Calls Try.prog 7 #[.string s, .int .u16 a, .int .u32 b] w fun e w' => e = .returned (.bool true) ∧ Below w.heap.size w w' := by
  by_cases h1 : 1024 < s.size
  · clear h
    go_enter Try.func7, Try.ntmps7
    go_wp2_with fail
    refine (shown2_any _).mono ?_
    rintro e w1 ⟨rfl, hb1⟩
    go_wp2_with fail
    go_ret
    exact ⟨rfl, hb1⟩
  · obtain rfl : b = 0 := by omega
    clear h
    go_enter Try.func7, Try.ntmps7
    go_wp2_with fail
    refine (shown2_any _).mono ?_
    rintro e w1 ⟨rfl, hb1⟩
    go_wp2_with fail
    go_ret
    exact ⟨rfl, hb1⟩

theorem xor_byte (x : UInt8) (m : Nat) (v : Int) (h : v = ((m % 256 : Nat) : Int)) : bits BinOp.xor IntKind.u8 (x.toNat : Int) v = ((x ^^^ UInt8.ofNat m).toNat : Int) := by
  rw [h, ← xor_u8]
  simp
set_option maxHeartbeats 1000000 in
theorem crcBursts_yes (s : ByteArray) (at_ by_ : Nat) (h : s.size ≤ 1024) (h0 : 0 < by_) (hby : by_ < 4294967296) (hat : at_ < 65536) (w : World) :
    Calls Try.prog 7 #[.string s, .int .u16 at_, .int .u32 by_] w fun e w' => e = .returned (.bool true) ∧ Below w.heap.size w w' := by
  have hby0 : ((by_ : Int) == 0) = false := beq_eq_false_iff_ne.2 (by omega)
  have hS : sealS s ((s.size : Int) + 4) = ⟨(sealL s.data.toList s.size).toArray⟩ := by
    unfold sealS
    rw [sealB_yes (by omega)]
    rw [show ((s.size : Int) + 4).toNat - 4 = s.size by omega]
    rfl
  have hB : sealB s ((s.size : Int) + 4) = true := sealB_yes (by omega)
  have hlen : s.data.toList.length ≤ s.size := by simp
  have hO := openS_seal s.data.toList s.size hlen
  have hOB : openB (ByteArray.mk (sealL s.data.toList s.size).toArray).data.toList = true := openB_seal s.data.toList s.size hlen
  have hpad : ByteArray.mk (padL s.data.toList s.size).toArray = s := by
    apply ByteArray.ext
    apply Array.toList_inj.1
    show padL s.data.toList s.size = _
    unfold padL
    rw [show s.size - s.data.toList.length = 0 by simp]
    simp
  rw [hpad] at hO
  have hsz : (ByteArray.mk (sealL s.data.toList s.size).toArray).size = s.size + 4 := by
    show Array.size _ = _
    rw [List.size_toArray, sealL_length _ _ hlen]
  clear hpad hlen
  generalize ByteArray.mk (sealL s.data.toList s.size).toArray = t at *
  have ht1 : ((t.size : Int) != (s.size : Int) + 4) = false := by rw [hsz]; simp
  have HSZ := Lib.hid hsz
  have htl : t.size ≤ 1028 := by omega
  clear hsz
  obtain ⟨i, hi, hlt⟩ : ∃ i : Nat, (at_ : Int) % ((t.size : Int) - 3) = (i : Int) ∧ i + 4 ≤ t.size := by
    have := HSZ.out
    refine ⟨at_ % (t.size - 3), ?_, ?_⟩
    · rw [show (t.size : Int) - 3 = ((t.size - 3 : Nat) : Int) by omega]
      simp
    · have := Nat.mod_lt at_ (show 0 < t.size - 3 by omega)
      omega
  have hcs := fun W => Lib.run_convert_string_bytes (P := Try.prog) W 9 30 5 t Try.underlying9 Try.underlying30 Try.underlying5
  have ht3 : 3 < t.size := by have := HSZ.out; omega
  go_enter Try.func7, Try.ntmps7
  go_wp2_with fail
  refine (shown2_any _).mono ?_
  rintro e w1 ⟨rfl, hb1⟩
  go_wp2_with fail
  refine (seal_any _ s _).mono ?_
  rintro e w2 ⟨rfl, hb2⟩
  rw [hS, hB]
  clear hS hB
  go_wp2_with fail
  rw [hi]
  clear hi hcs
  have hrow := BRow.of_string w2 t
  have hb3 := below_bytes w2 t
  have hbel := hb1.trans ((hb2.trans (hb3.mono hb2.size)).mono hb1.size)
  have hBw : w.heap.size ≤ w2.heap.size := Nat.le_trans hb1.size hb2.size
  generalize Lib.bytesWorld w2 5 t = W0 at *
  generalize w2.heap.size = B at *
  clear hb1 hb2 hb3
  have hl : t.data.toList.length = t.size := by simp
  go_loopw [11] (fun j wr => ∃ k : Nat, k ≤ 4 ∧ j = .int .i64 k ∧ BRow wr B (burst t.data.toList i by_ k) ∧ Below w.heap.size w wr) (fun j _ => 4 - (intOf j).toNat)
  case atStart => exact ⟨0, by omega, rfl, by rw [burst_zero]; exact hrow, hbel⟩
  case round =>
    obtain ⟨k, hk, rfl, hr, hb⟩ := hrel
    have hbl := burst_length t.data.toList i by_ k
    by_cases hlt4 : k < 4
    · have hik : i + k < t.data.toList.length := by omega
      have hc := hr.1 (i + k) (by omega)
      have hf := hr.2 (i + k) (by omega)
      rw [burst_get _ _ _ _ hik] at hc
      have hset := hr.set_ (i + k) (by omega) (t.data.toList[i + k] ^^^ (le32 by_).getD k 0)
      rw [burst_set _ _ _ _ hik] at hset
      obtain ⟨x, hx⟩ : ∃ x, t.data.toList[i + k] = x := ⟨_, rfl⟩
      rw [hx] at hc hset
      clear hx hr
      unfold bc at hc
      have hk4 : k = 0 ∨ k = 1 ∨ k = 2 ∨ k = 3 := by omega
      rcases hk4 with rfl | rfl | rfl | rfl
      · rw [Nat.add_zero] at hc hf hset
        have HS := Lib.hid hset
        clear hset hbl hl
        go_wp2
        go_region
        go_wp2
        go_roundw
        case rel =>
          refine ⟨0 + 1, by omega, by go_num, ?_, (hb.setCell hBw _).drew⟩
          rw [xor_byte x (by_) _ (by omega)]
          exact HS.out.drew
        case measure => simp [intOf]
      · have HS := Lib.hid hset
        clear hset hbl hl
        go_wp2
        go_region
        go_wp2
        go_roundw
        case rel =>
          refine ⟨1 + 1, by omega, by go_num, ?_, (hb.setCell hBw _).drew⟩
          rw [xor_byte x (by_ / 256) _ (by omega)]
          exact HS.out.drew
        case measure => simp [intOf]
      · have HS := Lib.hid hset
        clear hset hbl hl
        go_wp2
        go_region
        go_wp2
        go_roundw
        case rel =>
          refine ⟨2 + 1, by omega, by go_num, ?_, (hb.setCell hBw _).drew⟩
          rw [xor_byte x (by_ / 65536) _ (by omega)]
          exact HS.out.drew
        case measure => simp [intOf]
      · have HS := Lib.hid hset
        clear hset hbl hl
        go_wp2
        go_region
        go_wp2
        go_roundw
        case rel =>
          refine ⟨3 + 1, by omega, by go_num, ?_, (hb.setCell hBw _).drew⟩
          rw [xor_byte x (by_ / 16777216) _ (by omega)]
          exact HS.out.drew
        case measure => simp [intOf]
    · obtain rfl : k = 4 := by omega
      have hcv := hr.conv (n := t.size) (c := grownCap w2 t.size 0 5) (by rw [hbl, hl])
      have hno := burst_tells t.data.toList i by_ hby h0 (by omega) hOB
      obtain ⟨u, hu⟩ : ∃ u, burst t.data.toList i by_ 4 = u := ⟨_, rfl⟩
      rw [hu] at hcv hno hbl
      clear hu hr hl
      have HBL := Lib.hid hbl
      clear hbl hrow
      go_wp2_with fail
      refine (open_any _ ⟨u.toArray⟩ (by show Array.size _ ≤ _; rw [List.size_toArray, HBL.out, Array.length_toList]; show t.size ≤ _; unfold maxLen; omega)).mono ?_
      rintro e w3 ⟨rfl, hb3⟩
      rw [show openB (ByteArray.mk u.toArray).data.toList = false from hno]
      clear hno hcv
      go_wp2_with fail
      refine (open_any _ t (by unfold maxLen; omega)).mono ?_
      rintro e w4 ⟨rfl, hb4⟩
      rw [hO, hOB]
      clear hO hOB
      go_wp2_with fail
      go_ret
      exact ⟨rfl, hb.trans ((hb3.trans (hb4.mono hb3.size)).mono hb.size)⟩

theorem crcBursts_walk (s : ByteArray) (a b : Int) (_hs : s.size ≤ maxLen) (ha : (Lit.int .u16 a).wf = true) (hb : (Lit.int .u32 b).wf = true) (w : World) :
    Calls Try.prog 7 #[.string s, .int .u16 a, .int .u32 b] w fun e w' => e = .returned (.bool true) ∧ Below w.heap.size w w' := by
  have h1 := bounds_u16 ha
  have h2 := bounds_u32 hb
  by_cases h : 1024 < s.size ∨ b = 0
  · exact crcBursts_no s a b h w
  · obtain ⟨a', rfl⟩ := Int.eq_ofNat_of_zero_le h1.1
    obtain ⟨b', rfl⟩ := Int.eq_ofNat_of_zero_le h2.1
    exact crcBursts_yes s a' b' (by omega) (by omega) (by omega) (by omega) w
end Go.Proofs.Ytcfelgjjacpofaa
