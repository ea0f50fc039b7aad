import Derived.Test.YtcfelgjjacpofaaCrcLinear
import Derived.Lib.BufferWrite
namespace Go.Proofs.Ytcfelgjjacpofaa
open Go.RowKit Go.OpenShut

def le32 (n : Nat) : List UInt8 := [UInt8.ofNat n, UInt8.ofNat (n / 256), UInt8.ofNat (n / 65536), UInt8.ofNat (n / 16777216)]
theorem le32_length (n : Nat) : (le32 n).length = 4 := rfl
theorem bc_ofNat (n : Nat) : bc (UInt8.ofNat n) = .int .u8 ((n % 256 : Nat) : Int) := by simp [bc]
theorem le32_cells (n : Nat) (hn : n < 4294967296) : (bcs (le32 n)).toArray = #[.int .u8 ((n : Int) % 256), .int .u8 ((n : Int) / 256 % 256), .int .u8 ((n : Int) / 65536 % 256), .int .u8 ((n : Int) / 16777216)] := by
  have e : ((n / 16777216 % 256 : Nat) : Int) = (n : Int) / 16777216 := by omega
  simp only [bcs, le32, List.map_cons, List.map_nil, bc_ofNat, e]
  rfl

theorem bytes_any (w : World) (n : Nat) (hn : n < 4294967296) :
    Calls Try.prog 21 #[.int .u32 n] w fun e w' => e = .returned (.slice (some ⟨w.heap.size, 0, none⟩) 4 4) ∧ w' = w.alloc (.cells (bcs (le32 n)).toArray 5) := by
  have H := Lib.hid (le32_cells n hn)
  go_enter Try.func21, Try.ntmps21
  go_wp2
  go_ret
  refine ⟨rfl, ?_⟩
  rw [H.out]

theorem four_any (w : World) (n : Nat) (hn : n < 4294967296) :
    Calls Try.prog 22 #[.int .u32 n] w fun e w' => e = .returned (.string ⟨(le32 n).toArray⟩) ∧ Below w.heap.size w w' := by
  have hcv := conv_cells (w := w.alloc (.cells (bcs (le32 n)).toArray 5)) (b := w.heap.size) (off := 0) (cap := 4) (l := le32 n) (fun i hi => by
    rw [Nat.zero_add, (Blk.new w 5 (bcs (le32 n)).toArray).cell i]
    simpa using bcs_get hi)
  rw [le32_cells n hn, le32_length] at hcv
  go_enter Try.func22, Try.ntmps22
  go_wp2
  go_ret
  exact ⟨rfl, (Below.refl _ _).alloc (Nat.le_refl _) _⟩

theorem and1_u32 (x : Nat) (h : x < 4294967296) : bits BinOp.and IntKind.u32 (x : Int) 1 = ((x % 2 : Nat) : Int) := by
  have h1 := u32_and_nat x 1 h (by omega)
  rw [nat_mask1] at h1
  exact h1

set_option maxHeartbeats 1000000 in
theorem refMore_any (w : World) (n : Nat) (hn : n < 4294967296) (s : ByteArray) (hs : s.size ≤ maxLen) :
    Calls Try.prog 17 #[.int .u32 n, .string s] w fun e w' => e = .returned (.int .u32 (cmore n s.data.toList : Nat)) ∧ w = w' := by
  unfold maxLen at hs
  have hsg : IntKind.u32.signed = false := rfl
  obtain ⟨x, hx, hxn, hxl⟩ : ∃ x : Nat, bits BinOp.xor IntKind.u32 IntKind.u32.max (n : Int) = (x : Int) ∧ x = 4294967295 - n ∧ x < 4294967296 := ⟨_, u32_not n hn, rfl, by omega⟩
  have HX := Lib.hid hxn
  clear hxn
  go_enter Try.func17, Try.ntmps17
  go_wp2
  clear hx
  go_loop [5, 6] (fun v i => ∃ k : Nat, k ≤ s.size ∧ i = .int .i64 k ∧ v = .int .u32 (csum x (s.data.toList.take k) : Nat)) (fun _ i => s.size - (intOf i).toNat)
  case atStart => exact ⟨0, by omega, rfl, rfl⟩
  case round =>
    obtain ⟨k, hk, rfl, rfl⟩ := hrel
    have hyl := csum_lt (s.data.toList.take k) x hxl
    obtain ⟨y, hyy⟩ : ∃ y, csum x (s.data.toList.take k) = y := ⟨_, rfl⟩
    rw [hyy] at hyl ⊢
    have HY := Lib.hid hyy
    clear hyy
    by_cases hlt : k < s.size
    · obtain ⟨z, hz, hzz, hzl⟩ : ∃ z : Nat, bits BinOp.xor IntKind.u32 (y : Int) ((s[k].toNat : Int) % 4294967296) = (z : Int) ∧ z = y ^^^ s[k].toNat ∧ z < 4294967296 := by
        have hb := s[k].toNat_lt
        refine ⟨_, ?_, rfl, Nat.xor_lt_two_pow (n := 32) (by omega) (by omega)⟩
        rw [Int.emod_eq_of_lt (by omega) (by omega), u32_xor_nat _ _ hyl (by omega)]
      have HZ := Lib.hid hzz
      clear hzz
      go_wp2
      clear hz
      go_loop [5, 7] (fun v j => ∃ (m : Nat), m ≤ 8 ∧ j = .int .i64 m ∧ v = .int .u32 (cstn m z : Nat)) (fun _ j => 8 - (intOf j).toNat)
      case atStart => exact ⟨0, by omega, rfl, rfl⟩
      case round =>
        obtain ⟨m, hm, rfl, rfl⟩ := hrel
        have htl := cstn_lt m z hzl
        obtain ⟨t, htt⟩ : ∃ t, cstn m z = t := ⟨_, rfl⟩
        have HT := Lib.hid htt
        rw [htt] at htl ⊢
        clear htt
        by_cases hmlt : m < 8
        · have ha := and1_u32 t htl
          have h2 : t % 2 = 0 ∨ t % 2 = 1 := by omega
          rcases h2 with h2 | h2
          · have HC := Lib.hid (show cst t = t / 2 by unfold cst; rw [h2]; simp)
            rw [h2] at ha
            clear h2
            go_wp2
            go_round
            case rel => exact ⟨m + 1, by omega, by go_num, by show _ = Value.int .u32 ((cst (cstn m z) : Nat) : Int); rw [HT.out, HC.out]; congr 1⟩
            case measure => simp [intOf]; omega
          · have HC := Lib.hid (show cst t = t / 2 ^^^ 2197175160 by unfold cst; rw [h2])
            rw [h2] at ha
            clear h2
            go_wp2
            go_round
            case rel => 
              refine ⟨m + 1, by omega, by go_num, ?_⟩
              show _ = Value.int .u32 ((cst (cstn m z) : Nat) : Int)
              rw [HT.out, HC.out, ← u32_xor_nat _ _ (by omega) (by omega)]
              congr 1
            case measure => simp [intOf]; omega
        · obtain rfl : m = 8 := by omega
          go_wp2
          go_round
          case rel =>
            refine ⟨k + 1, by omega, by go_num, ?_⟩
            rw [take_snoc s k hlt, csum_snoc, HY.out, cbyte_eq, ← HZ.out, HT.out]
          case measure => simp [intOf]; omega
    · go_wp2
      go_ret
      refine ⟨?_, rfl⟩
      have h1 := u32_not y hyl
      have h2 := HY.out
      rw [List.take_of_length_le (by simp; omega), HX.out] at h2
      show Ending.returned (Value.int IntKind.u32 (bits BinOp.xor IntKind.u32 IntKind.u32.max ↑y)) = _
      rw [h1, ← h2]
      rfl
theorem refSum_any (w : World) (s : ByteArray) (hs : s.size ≤ maxLen) :
    Calls Try.prog 18 #[.string s] w fun e w' => e = .returned (.int .u32 (cmore 0 s.data.toList : Nat)) ∧ w = w' := by
  go_enter Try.func18, Try.ntmps18
  go_wp2_with fail
  refine (refMore_any _ 0 (by omega) s hs).mono ?_
  rintro e w1 ⟨rfl, rfl⟩
  go_wp2
  go_ret
  exact ⟨rfl, rfl⟩
end Go.Proofs.Ytcfelgjjacpofaa
