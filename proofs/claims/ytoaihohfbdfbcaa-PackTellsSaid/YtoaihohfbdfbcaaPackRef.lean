import Derived.Test.YtoaihohfbdfbcaaPackBytes
namespace Go.Proofs.Ytoaihohfbdfbcaa
open Go.RowKit Go.OpenShut

set_option maxHeartbeats 1000000 in
theorem refFits_any (w : World) (n : Nat) (hn : n < 18446744073709551616) (x : Int) :
    Calls Try.prog 18 #[.int .u64 n, .int .i64 x] w fun e w' => e = .returned (.bool (fitsB n x)) ∧ w = w' := by
  by_cases h0 : x < 1
  · have hf : fitsB n x = false := by unfold fitsB; rw [decide_eq_false (by omega)]; rfl
    rw [hf]
    clear hf
    go_enter Try.func18, Try.ntmps18
    go_wp2_with fail
    go_ret
    exact ⟨rfl, rfl⟩
  · by_cases h8 : 8 < x
    · have hf : fitsB n x = false := by unfold fitsB; rw [decide_eq_false (by omega)]; rfl
      rw [hf]
      clear hf
      go_enter Try.func18, Try.ntmps18
      go_wp2_with fail
      go_ret
      exact ⟨rfl, rfl⟩
    · obtain ⟨m, rfl⟩ := Int.eq_ofNat_of_zero_le (show 0 ≤ x by omega)
      have hf : ∀ z : Nat, z = n / 256 ^ m → ((z : Int) == 0) = fitsB n (m : Int) := fun z hz => by
        rw [← fits_eq n m (by omega) (by omega), hz]
        congr 1
      have HF := Lib.hid hf
      clear hf
      go_enter Try.func18, Try.ntmps18
      go_wp2_with fail
      go_loop [0, 5] (fun v i => ∃ k z : Nat, k ≤ m ∧ i = .int .i64 k ∧ v = .int .u64 z ∧ z = n / 256 ^ k ∧ z < 18446744073709551616) (fun _ i => m - (intOf i).toNat)
      case atStart => exact ⟨0, n, by omega, rfl, rfl, by simp, hn⟩
      case round =>
        obtain ⟨k, z, hk, rfl, rfl, hz, hzl⟩ := hrel
        have HZ := Lib.hid hz
        clear hz
        by_cases hlt : k < m
        · obtain ⟨z', hd, hz'⟩ : ∃ z' : Nat, (z : Int) / 256 = (z' : Int) ∧ z' = z / 256 := ⟨z / 256, by omega, rfl⟩
          have HZ' := Lib.hid hz'
          clear hz'
          go_wp2_with fail
          go_round
          case rel => exact ⟨k + 1, z', by omega, by go_num, rfl, by rw [HZ'.out, HZ.out, Nat.pow_succ, Nat.div_div_eq_div_mul], by rw [HZ'.out]; omega⟩
          case measure => simp [intOf]; omega
        · obtain rfl : k = m := by omega
          go_wp2_with fail
          go_ret
          exact ⟨ret_bool (HF.out z HZ.out), rfl⟩

set_option maxHeartbeats 1000000 in
theorem refSize_any (w : World) (A : Option Addr) (n c : Nat) (ws : List Int) (h : IntsA w w.heap.size .i64 A n ws) :
    Calls Try.prog 16 #[.slice A n c] w fun e w' => e = .returned (.tuple #[.int .i64 (sizeN ws), .int .i64 (sizeE ws)]) ∧ w = w' := by
  have HL := Lib.hid h.1
  by_cases h64 : 64 < n
  · have hno : wOK ws = false := by
      unfold wOK
      rw [Bool.and_eq_false_iff]
      right
      rw [HL.out]
      simpa using h64
    rw [(size_no hno).1, (size_no hno).2]
    clear hno
    go_enter Try.func16, Try.ntmps16
    go_wp2_with fail
    go_ret2
    exact ⟨rfl, rfl⟩
  · go_enter Try.func16, Try.ntmps16
    go_wp2_with fail
    go_loop [4, 5] (fun t i => ∃ k : Nat, k ≤ n ∧ i = .int .i64 k ∧ t = .int .i64 (sumW (ws.take k)) ∧ (∀ x ∈ ws.take k, 1 ≤ x ∧ x ≤ 8)) (fun _ i => n - (intOf i).toNat)
    case atStart => exact ⟨0, by omega, rfl, rfl, by simp⟩
    case round =>
      obtain ⟨k, hk, rfl, rfl, hall⟩ := hrel
      have hbd := sumW_bd _ hall
      have hlt' : (ws.take k).length ≤ k := List.length_take_le _ _
      have hb0 : 0 ≤ sumW (ws.take k) := by omega
      have hb1 : sumW (ws.take k) ≤ 34359738360 := by omega
      by_cases hlt : k < n
      · obtain ⟨b, off, rfl, _, hc⟩ := h.2 (by omega)
        have hck := hc k hlt
        have hts := take_snocI ws k (by rw [HL.out]; exact hlt)
        have HTS := Lib.hid hts
        have hx : ws.getD k 0 ∈ ws := by
          have : k < ws.length := by rw [HL.out]; exact hlt
          simp [List.getD, this]
        obtain ⟨x, hxe⟩ : ∃ x, ws.getD k 0 = x := ⟨_, rfl⟩
        have HX := Lib.hid hxe
        rw [hxe] at hck hx
        have HM := Lib.hid hx
        obtain ⟨t, ht⟩ : ∃ t, sumW (ws.take k) = t := ⟨_, rfl⟩
        have HT := Lib.hid ht
        rw [ht] at hb0 hb1 ⊢
        clear hc hbd hts hxe hx hlt' ht
        have HA := Lib.hid hall
        clear hall
        by_cases hr : 1 ≤ x ∧ x ≤ 8
        · obtain ⟨hr1, hr2⟩ := hr
          have hx1 : ¬ x < 1 := by omega
          have hx8 : ¬ 8 < x := by omega
          go_wp2_with fail
          go_round
          case rel =>
            refine ⟨k + 1, by omega, by go_num, ?_, ?_⟩
            · rw [HTS.out, sumW_snoc, HT.out, HX.out]
            · rw [HTS.out, HX.out]
              intro y hy
              rcases List.mem_append.1 hy with hy | hy
              · exact HA.out y hy
              · simp at hy
                subst hy
                exact ⟨hr1, hr2⟩
          case measure => simp [intOf]; omega
        · have hno : wOK ws = false := by
            unfold wOK
            rw [Bool.and_eq_false_iff]
            left
            rw [List.all_eq_false]
            exact ⟨x, HM.out, by simpa using fun h1 => by omega⟩
          have HNO := Lib.hid hno
          clear hno
          by_cases hx1 : x < 1
          · clear hr
            go_wp2_with fail
            go_ret2
            exact ⟨by rw [(size_no HNO.out).1, (size_no HNO.out).2]; rfl, rfl⟩
          · have hx8 : 8 < x := by omega
            clear hr
            go_wp2_with fail
            go_ret2
            exact ⟨by rw [(size_no HNO.out).1, (size_no HNO.out).2]; rfl, rfl⟩
      · obtain rfl : k = n := by omega
        have hta : ws.take k = ws := List.take_of_length_le (by rw [HL.out]; omega)
        rw [hta] at hall hb0 hb1 ⊢
        have hok : wOK ws = true := by
          unfold wOK
          rw [List.all_eq_true.2 (fun x hx => by simpa using hall x hx), decide_eq_true (by rw [HL.out]; omega)]
          rfl
        have HOK := Lib.hid hok
        clear hok hall hta
        go_wp2_with fail
        go_ret2
        exact ⟨by rw [(size_yes HOK.out).1, (size_yes HOK.out).2]; rfl, rfl⟩
end Go.Proofs.Ytoaihohfbdfbcaa
