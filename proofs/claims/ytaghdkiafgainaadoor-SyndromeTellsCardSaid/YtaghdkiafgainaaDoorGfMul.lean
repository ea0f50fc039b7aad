import Derived.Test.YtaghdkiafgainaaDoorGfPlain
namespace Go.Proofs.YtaghdkiafgainaaDoor
set_option maxRecDepth 20000
open Go.RowKit Go.OpenShut

theorem xor_u8n (a b : Nat) (ha : a < 256) (hb : b < 256) : bits BinOp.xor IntKind.u8 (a : Int) (b : Int) = ((a ^^^ b : Nat) : Int) := u8_xor_nat a b ha hb
theorem and_one_u8 (y : Nat) (h : y < 256) : bits BinOp.and IntKind.u8 (y : Int) 1 = ((y % 2 : Nat) : Int) := by
  have h1 := u8_and_nat y 1 h (by omega)
  rw [Nat.and_one_is_mod] at h1
  exact h1

theorem xt_small {x : Nat} (h : x < 128) : (x : Int) * 2 = ((xt x : Nat) : Int) := by
  unfold xt
  rw [if_pos h]
  omega
theorem xt_big {x : Nat} (h : ¬ x < 128) (hx : x < 256) : bits BinOp.xor IntKind.u8 ((x : Int) * 2 % 256) 29 = ((xt x : Nat) : Int) := by
  unfold xt
  rw [if_neg h]
  have h1 : (x : Int) * 2 % 256 = ((2 * x - 256 : Nat) : Int) := by omega
  rw [h1]
  exact u8_xor_nat (2 * x - 256) 29 (by omega) (by omega)
set_option maxHeartbeats 1000000 in
theorem mul_any (w : World) (a b : Nat) (ha : a < 256) (hb : b < 256) :
    Calls Tryd.prog 29 #[.int .u8 a, .int .u8 b] w fun e w' => e = .returned (.int .u8 (gm a b : Nat)) ∧ w = w' := by
  obtain ⟨M, hM⟩ : ∃ M, gm a b = M := ⟨_, rfl⟩
  rw [hM]
  have HM := Lib.hid hM
  clear hM
  go_enter Tryd.func29, Tryd.ntmps29
  go_wp2_with fail
  go_loop [0, 1, 5] (fun u v t => ∃ k x y n : Nat, u = .int .u8 x ∧ v = .int .u8 y ∧ t = .int .u8 n ∧ x < 256 ∧ y < 256 ∧ y < 2 ^ k ∧ n < 256 ∧ n ^^^ gmF k x y = M) (fun _ v _ => (intOf v).toNat)
  case atStart => exact ⟨8, a, b, 0, rfl, rfl, rfl, ha, hb, hb, by omega, by rw [Nat.zero_xor]; exact HM.out⟩
  case round =>
    obtain ⟨k, x, y, n, rfl, rfl, rfl, hx, hy, hyk, hn, hinv⟩ := hrel
    have HI := Lib.hid hinv
    have HK := Lib.hid hyk
    clear hinv hyk
    by_cases h0 : 0 < y
    · obtain ⟨k, rfl⟩ : ∃ j, k = j + 1 := by
        cases k with
        | zero => have := HK.out; omega
        | succ j => exact ⟨j, rfl⟩
      have hI := HI.out
      rw [gmF] at hI
      have HI := Lib.hid hI
      have hyk := HK.out
      rw [Nat.pow_succ] at hyk
      obtain ⟨y', hy', hyd, hy'k⟩ : ∃ y' : Nat, (y : Int) / 2 = (y' : Int) ∧ y' = y / 2 ∧ y' < 2 ^ k := ⟨y / 2, by omega, rfl, by omega⟩
      have HK := Lib.hid hy'k
      have HY := Lib.hid hyd
      have h1 := and_one_u8 y hy
      have hnx := xor_u8n n x hn hx
      clear hyk hyd hy'k hI
      by_cases hb : y % 2 = 1
      · rw [hb] at h1
        have hb1 : bits BinOp.and IntKind.u8 (y : Int) 1 = 1 := h1
        obtain ⟨n', hn', hne, hnl⟩ : ∃ n' : Nat, bits BinOp.xor IntKind.u8 (n : Int) (x : Int) = (n' : Int) ∧ n' = n ^^^ x ∧ n' < 256 := ⟨_, hnx, rfl, xor_lt hn hx⟩
        have HN := Lib.hid hne
        have HB := Lib.hid hb
        clear h1 hnx hne hb
        by_cases h7 : x < 128
        · have h70 : (x : Int) / 128 = 0 := by omega
          go_wp2_with fail
          go_round
          case rel => exact ⟨k, xt x, y', n', by rw [xt_small h7], rfl, rfl, xt_lt hx, by have := HY.out; omega, HK.out, hnl, by rw [HN.out, HY.out, ← HI.out, if_pos HB.out, Nat.xor_assoc]⟩
          case measure => simp [intOf]; have := HY.out; omega
        · have h70 : (x : Int) / 128 = 1 := by omega
          go_wp2_with fail
          go_round
          case rel => exact ⟨k, xt x, y', n', by rw [xt_big h7 hx], rfl, rfl, xt_lt hx, by have := HY.out; omega, HK.out, hnl, by rw [HN.out, HY.out, ← HI.out, if_pos HB.out, Nat.xor_assoc]⟩
          case measure => simp [intOf]; have := HY.out; omega
      · have hb2 : y % 2 = 0 := by omega
        rw [hb2] at h1
        have hb1 : bits BinOp.and IntKind.u8 (y : Int) 1 = 0 := h1
        have HB := Lib.hid hb
        clear h1 hnx hb hb2
        by_cases h7 : x < 128
        · have h70 : (x : Int) / 128 = 0 := by omega
          go_wp2_with fail
          go_round
          case rel => exact ⟨k, xt x, y', n, by rw [xt_small h7], rfl, rfl, xt_lt hx, by have := HY.out; omega, HK.out, hn, by rw [HY.out, ← HI.out, if_neg HB.out, Nat.zero_xor]⟩
          case measure => simp [intOf]; have := HY.out; omega
        · have h70 : (x : Int) / 128 = 1 := by omega
          go_wp2_with fail
          go_round
          case rel => exact ⟨k, xt x, y', n, by rw [xt_big h7 hx], rfl, rfl, xt_lt hx, by have := HY.out; omega, HK.out, hn, by rw [HY.out, ← HI.out, if_neg HB.out, Nat.zero_xor]⟩
          case measure => simp [intOf]; have := HY.out; omega
    · obtain rfl : y = 0 := by omega
      have hI := HI.out
      rw [gmF_zero, Nat.xor_zero] at hI
      have HI := Lib.hid hI
      clear hI
      go_wp2_with fail
      go_ret
      exact ⟨by rw [← HI.out]; rfl, rfl⟩
end Go.Proofs.YtaghdkiafgainaaDoor
