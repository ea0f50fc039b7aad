/- the document's Mul, Times. -/
import Derived.Test.YtaghdkiafgainaaDoorGTimes
import Derived.Test.YtaghdkiafgainaaDoorXor0
namespace Go.Proofs.YtaghdkiafgainaaDoor
set_option maxRecDepth 20000
open Go.RowKit Go.OpenShut

theorem and_one_i64 (y : Nat) (h : y < 9223372036854775808) : bits BinOp.and IntKind.i64 (y : Int) 1 = ((y % 2 : Nat) : Int) := by
  have hx : y &&& 1 < 2 ^ 63 := Nat.and_lt_two_pow _ (by omega)
  show IntKind.i64.wrap ((BitVec.ofInt 64 (y : Int) &&& BitVec.ofInt 64 ((1 : Nat) : Int)).toNat : Int) = _
  rw [BitVec.toNat_and, ofInt_u64 y (by omega), ofInt_u64 1 (by omega), IntKind.wrap_i64, Nat.and_one_is_mod]
  omega

theorem gm_step (k b x n M : Nat) (hk : k < 8) (h : n ^^^ gmF (8 - k) x (b / 2 ^ k) = M) :
    n ^^^ ((if b / 2 ^ k % 2 = 1 then x else 0) ^^^ gmF (8 - (k + 1)) (xt x) (b / 2 ^ (k + 1))) = M := by
  have e : 8 - k = (8 - (k + 1)) + 1 := by omega
  rw [e, gmF, Nat.div_div_eq_div_mul, ← Nat.pow_succ] at h
  exact h

set_option maxHeartbeats 1000000 in
theorem refMul_any (w : World) (a b : Nat) (ha : a < 256) (hb : b < 256) :
    Calls Tryd.prog 40 #[.int .u8 a, .int .u8 b] w fun e w' => e = .returned (.int .u8 (gm a b : Nat)) ∧ w = w' := by
  obtain ⟨M, hM⟩ : ∃ M, gm a b = M := ⟨_, rfl⟩
  rw [hM]
  have HM := Lib.hid hM
  have hMl : M < 256 := by rw [← hM]; exact gm_lt ha
  clear hM
  go_enter Tryd.func40, Tryd.ntmps40
  go_wp2_with fail
  go_loop [5, 6, 7] (fun t u i => ∃ k x n : Nat, k ≤ 8 ∧ t = .int .i64 n ∧ u = .int .i64 x ∧ i = .int .i64 k ∧ n < 256 ∧ x < 256 ∧ n ^^^ gmF (8 - k) x (b / 2 ^ k) = M) (fun _ _ i => 8 - (intOf i).toNat)
  case atStart => exact ⟨0, a, 0, by omega, rfl, rfl, rfl, by omega, ha, by rw [Nat.zero_xor, Nat.pow_zero, Nat.div_one]; exact HM.out⟩
  case round =>
    obtain ⟨k, x, n, hk, rfl, rfl, rfl, hn, hx, hinv⟩ := hrel
    have HI := Lib.hid hinv
    clear hinv
    by_cases hlt : k < 8
    · have hI := gm_step k b x n M hlt HI.out
      obtain ⟨q, hq, hqe, hql⟩ : ∃ q : Nat, (b : Int) / 2 ^ k = (q : Int) ∧ b / 2 ^ k = q ∧ q ≤ b := by
        refine ⟨b / 2 ^ k, ?_, rfl, Nat.div_le_self _ _⟩
        rw [Int.natCast_ediv, Int.natCast_pow]
        rfl
      rw [hqe] at hI
      have HI2 := Lib.hid hI
      have h1 := and_one_i64 q (by omega)
      have hnx := i64_xor_nat n x (by omega) (by omega)
      clear hI hqe
      by_cases hb1 : q % 2 = 1
      · rw [hb1] at h1
        have hbb : bits BinOp.and IntKind.i64 (q : Int) 1 = 1 := h1
        obtain ⟨n', hn', hne, hnl⟩ : ∃ n' : Nat, bits BinOp.xor IntKind.i64 (n : Int) (x : Int) = (n' : Int) ∧ n' = n ^^^ x ∧ n' < 256 := ⟨_, hnx, rfl, xor_lt hn hx⟩
        have HN := Lib.hid hne
        have HB := Lib.hid hb1
        clear h1 hnx hne hb1
        by_cases h7 : x < 128
        · have h70 : ¬ 256 ≤ (x : Int) * 2 := by omega
          go_wp2_with fail
          go_round
          case rel => exact ⟨k + 1, xt x, n', by omega, rfl, by rw [xt_small h7], by go_num, hnl, xt_lt hx, by rw [HN.out, ← HI2.out, if_pos HB.out, Nat.xor_assoc]⟩
          case measure => simp [intOf]; omega
        · have h8 := xor_285 h7 hx
          have h70 : 256 ≤ (x : Int) * 2 := by omega
          go_wp2_with fail
          go_round
          case rel => exact ⟨k + 1, xt x, n', by omega, rfl, rfl, by go_num, hnl, xt_lt hx, by rw [HN.out, ← HI2.out, if_pos HB.out, Nat.xor_assoc]⟩
          case measure => simp [intOf]; omega
      · have hb2 : q % 2 = 0 := by omega
        rw [hb2] at h1
        have hbb : bits BinOp.and IntKind.i64 (q : Int) 1 = 0 := h1
        have HB := Lib.hid hb1
        clear h1 hnx hb1 hb2
        by_cases h7 : x < 128
        · have h70 : ¬ 256 ≤ (x : Int) * 2 := by omega
          go_wp2_with fail
          go_round
          case rel => exact ⟨k + 1, xt x, n, by omega, rfl, by rw [xt_small h7], by go_num, hn, xt_lt hx, by rw [← HI2.out, if_neg HB.out, Nat.zero_xor]⟩
          case measure => simp [intOf]; omega
        · have h8 := xor_285 h7 hx
          have h70 : 256 ≤ (x : Int) * 2 := by omega
          go_wp2_with fail
          go_round
          case rel => exact ⟨k + 1, xt x, n, by omega, rfl, rfl, by go_num, hn, xt_lt hx, by rw [← HI2.out, if_neg HB.out, Nat.zero_xor]⟩
          case measure => simp [intOf]; omega
    · obtain rfl : k = 8 := by omega
      have hI := HI.out
      rw [show 8 - 8 = 0 from rfl, gmF, Nat.xor_zero] at hI
      subst hI
      go_wp2_with fail
      go_ret
      exact ⟨rfl, rfl⟩

theorem OwnB.shape {w : World} {base : Nat} {v : Value} {l : List UInt8} (h : OwnB w base v l) : ∃ A c, v = .slice A l.length c := by
  rcases h.2 with ⟨rfl, h0⟩ | ⟨g, cap, cur, rfl, _⟩
  · exact ⟨none, 0, by rw [h0]⟩
  · exact ⟨_, _, rfl⟩
set_option maxHeartbeats 1000000 in
theorem refTimes_any (w : World) (s : ByteArray) (b : Nat) (hs : s.size ≤ 4000000000) (hb : b < 256) :
    Calls Tryd.prog 24 #[.string s, .int .u8 b] w fun e w' => e = .returned (.string ⟨(mulL s.data.toList b).toArray⟩) ∧ Below w.heap.size w w' := by
  go_enter Tryd.func24, Tryd.ntmps24
  go_wp2_with fail
  go_loopw [5, 6] (fun v i wr => ∃ k : Nat, k ≤ s.size ∧ i = .int .i64 k ∧ OwnB wr w.heap.size v (mulL (s.data.toList.take k) b) ∧ Below w.heap.size w wr) (fun _ i _ => s.size - (intOf i).toNat)
  case atStart => exact ⟨0, by omega, rfl, World.ownsRow_lit _ _ _ (Nat.le_refl _) (by decide) rfl, (Below.refl _ _).alloc (Nat.le_refl _) _⟩
  case round =>
    obtain ⟨k, hk, rfl, hv, hbe⟩ := hrel
    have hsW := hbe.size
    by_cases hlk : k < s.size
    · have hkl : k < s.data.toList.length := by simpa using hlk
      have hnx : mulL (s.data.toList.take (k + 1)) b = mulL (s.data.toList.take k) b ++ [UInt8.ofNat (gm s[k].toNat b)] := by
        rw [List.take_succ_eq_append_getElem hkl]
        simp [mulL]
        rfl
      have hln : (mulL (s.data.toList.take k) b).length ≤ 4000000000 := by
        simp [mulL]
        omega
      obtain ⟨x, hx⟩ : ∃ x : Nat, (s[k].toNat : Int) = (x : Int) := ⟨_, rfl⟩
      have hx' : s[k].toNat = x := by omega
      have hxl : x < 256 := by rw [← hx']; exact s[k].toNat_lt
      have hgl := gm_lt (b := b) hxl
      rw [hx'] at hnx
      obtain ⟨P, hP⟩ : ∃ P, gm x b = P := ⟨_, rfl⟩
      rw [hP] at hnx hgl
      have HP := Lib.hid hP
      have HN := Lib.hid hnx
      have hbt := (Below.refl w.heap.size wr).alloc hsW (.cells #[.int .u8 (P : Int)] 5)
      have hcb : (wr.alloc (.cells #[.int .u8 (P : Int)] 5)).cell? ⟨wr.heap.size, 0, none⟩ = some (bc (UInt8.ofNat P)) := by
        rw [cell_new]
        unfold bc
        rw [UInt8.toNat_ofNat_of_lt' hgl]
      clear hP hnx hx'
      go_wp2_with fail
      refine (refMul_any _ x b hxl hb).mono ?_
      rintro e w2 ⟨rfl, rfl⟩
      rw [HP.out]
      go_wp2_with (at_builtin; refine wp_pushB rfl (.tmp 14) (.tmp 20) rfl w.heap.size _ _ rfl (hv.alloc _) ⟨wr.heap.size, 0, none⟩ 1 (UInt8.ofNat P) rfl hcb (by omega) (by simp; omega) ?_; intro v4 w4 hv4 _ hb4; have hbe4 := hbt.trans hb4)
      go_roundw
      case rel =>
        refine ⟨k + 1, by omega, by go_num, ?_, hbe.trans hbe4⟩
        rw [HN.out]; exact hv4
      case measure => simp [intOf]; omega
    · obtain rfl : k = s.size := by omega
      rw [List.take_of_length_le (by simp)] at hv
      obtain ⟨X, hX⟩ : ∃ X, mulL s.data.toList b = X := ⟨_, rfl⟩
      rw [hX] at hv
      have HX := Lib.hid hX
      have hcv := hv.conv
      obtain ⟨A3, c3, rfl⟩ := hv.shape
      clear hv hX
      go_wp2_with fail
      go_ret
      exact ⟨by rw [HX.out]; rfl, hbe⟩
end Go.Proofs.YtaghdkiafgainaaDoor
