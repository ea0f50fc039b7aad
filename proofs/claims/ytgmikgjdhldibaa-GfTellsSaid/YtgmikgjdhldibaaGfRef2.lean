import Derived.Test.YtgmikgjdhldibaaGfRef
import Derived.Test.YtgmikgjdhldibaaGfPow
namespace Go.Proofs.Ytgmikgjdhldibaa
open Go.RowKit Go.OpenShut

set_option maxRecDepth 100000 in
set_option maxHeartbeats 1000000 in
theorem refInv_any (w : World) (a : Nat) (ha : a < 256) :
    Calls Try.prog 23 #[.int .u8 a] w fun e w' => e = .returned (.tuple #[.int .u8 (invR a : Nat), .bool (a != 0)]) ∧ w = w' := by
  obtain ⟨r, hr⟩ : ∃ r, invR a = r := ⟨_, rfl⟩
  obtain ⟨f, hf⟩ : ∃ f, (a != 0) = f := ⟨_, rfl⟩
  rw [hr, hf]
  have hit : ∀ k, k < 256 → gm a k = 1 → r = k ∧ f = true := fun k hk h => by
    have h0 : a ≠ 0 := by
      rintro rfl
      rw [gm_zero_left] at h
      omega
    refine ⟨?_, by rw [← hf]; exact bne_iff_ne.2 h0⟩
    rw [← hr, invR_nz h0]
    exact gm_cancel ha (inv_lt a) hk h0 ((gm_inv ha h0).trans h.symm)
  have hno : (∀ k, 1 ≤ k → k < 256 → gm a k ≠ 1) → r = 0 ∧ f = false := fun h => by
    have h0 : a = 0 := Decidable.byContradiction fun h0 => h (inv a) (by have := inv_ne a; omega) (inv_lt a) (gm_inv ha h0)
    subst h0
    exact ⟨hr.symm, hf.symm⟩
  have HIT := Lib.hid hit
  have HNO := Lib.hid hno
  clear hr hf hit hno
  go_enter Try.func23, Try.ntmps23
  go_wp2_with fail
  go_loop [4] (fun i => ∃ k : Nat, 1 ≤ k ∧ k ≤ 256 ∧ i = .int .i64 k ∧ ∀ j, 1 ≤ j → j < k → gm a j ≠ 1) (fun i => 256 - (intOf i).toNat)
  case atStart => exact ⟨1, by omega, by omega, rfl, fun j h1 h2 => by omega⟩
  case round =>
    obtain ⟨k, hk1, hk2, rfl, hall⟩ := hrel
    have HA := Lib.hid hall
    clear hall
    by_cases hlt : k < 256
    · obtain ⟨p, hp⟩ : ∃ p, gm a k = p := ⟨_, rfl⟩
      have HP := Lib.hid hp
      clear hp
      go_wp2_with fail
      refine (refMul_any _ a k ha hlt).mono ?_
      rintro e w2 ⟨rfl, rfl⟩
      rw [HP.out]
      by_cases h1 : p = 1
      · subst h1
        obtain ⟨rfl, rfl⟩ := HIT.out k hlt HP.out
        go_wp2_with fail
        go_ret2
        exact ⟨rfl, rfl⟩
      · have hb : ((p : Int) == 1) = false := beq_eq_false_iff_ne.2 (by omega)
        go_wp2_with fail
        go_round
        case rel =>
          refine ⟨k + 1, by omega, by omega, by go_num, fun j hj1 hj2 => ?_⟩
          by_cases e : j = k
          · subst e; rw [HP.out]; exact h1
          · exact HA.out j hj1 (by omega)
        case measure => simp [intOf]; omega
    · obtain rfl : k = 256 := by omega
      obtain ⟨rfl, rfl⟩ := HNO.out HA.out
      go_wp2_with fail
      go_ret2
      exact ⟨rfl, rfl⟩

set_option maxRecDepth 100000 in
set_option maxHeartbeats 1000000 in
theorem refLog_any (w : World) (a : Nat) (ha : a < 256) :
    Calls Try.prog 25 #[.int .u8 a] w fun e w' => e = .returned (.tuple #[.int .i64 (lgR a : Nat), .bool (a != 0)]) ∧ w = w' := by
  obtain ⟨r, hr⟩ : ∃ r, lgR a = r := ⟨_, rfl⟩
  obtain ⟨f, hf⟩ : ∃ f, (a != 0) = f := ⟨_, rfl⟩
  rw [hr, hf]
  have hit : ∀ k, k < 255 → pw k = a → r = k ∧ f = true := fun k hk h => by
    have h0 : a ≠ 0 := by rw [← h]; exact pw_ne k
    refine ⟨?_, by rw [← hf]; exact bne_iff_ne.2 h0⟩
    rw [← hr]
    unfold lgR
    rw [if_neg h0, ← h, lg_pw hk]
  have hno : (∀ k, k < 255 → pw k ≠ a) → r = 0 ∧ f = false := fun h => by
    have h0 : a = 0 := Decidable.byContradiction fun h0 => h (lg a) (pw_lg ha h0).1 (pw_lg ha h0).2
    subst h0
    exact ⟨hr.symm, hf.symm⟩
  have HIT := Lib.hid hit
  have HNO := Lib.hid hno
  clear hr hf hit hno
  go_enter Try.func25, Try.ntmps25
  go_wp2_with fail
  go_loop [4, 5] (fun x i => ∃ k p : Nat, k ≤ 255 ∧ i = .int .i64 k ∧ x = .int .u8 p ∧ p = pw k ∧ p < 256 ∧ ∀ j, j < k → pw j ≠ a) (fun _ i => 255 - (intOf i).toNat)
  case atStart => exact ⟨0, 1, by omega, rfl, rfl, rfl, by omega, fun j h => by omega⟩
  case round =>
    obtain ⟨k, p, hk, rfl, rfl, hp, hpl, hall⟩ := hrel
    have HP := Lib.hid hp
    have HA := Lib.hid hall
    clear hall hp
    by_cases hlt : k < 255
    · by_cases h1 : p = a
      · subst h1
        obtain ⟨rfl, rfl⟩ := HIT.out k hlt HP.out.symm
        have hb : ((p : Int) == (p : Int)) = true := by simp
        go_wp2_with fail
        go_ret2
        exact ⟨rfl, rfl⟩
      · have hb : ((p : Int) == (a : Int)) = false := beq_eq_false_iff_ne.2 (by omega)
        have hnx : gm p 2 = pw (k + 1) := by
          rw [HP.out]
          exact gm_pp k 1
        obtain ⟨q, hq⟩ : ∃ q, gm p 2 = q := ⟨_, rfl⟩
        have hql : q < 256 := by rw [← hq]; exact gm_lt hpl
        rw [hq] at hnx
        have HQ := Lib.hid hq
        have HN := Lib.hid hnx
        clear hq hnx
        go_wp2_with fail
        refine (refMul_any _ p 2 hpl (by omega)).mono ?_
        rintro e w2 ⟨rfl, rfl⟩
        rw [HQ.out]
        go_wp2_with fail
        go_round
        case rel =>
          refine ⟨k + 1, q, by omega, by go_num, rfl, HN.out, hql, fun j hj => ?_⟩
          by_cases e : j = k
          · subst e; rw [← HP.out]; exact h1
          · exact HA.out j (by omega)
        case measure => simp [intOf]; omega
    · obtain rfl : k = 255 := by omega
      obtain ⟨rfl, rfl⟩ := HNO.out HA.out
      go_wp2_with fail
      go_ret2
      exact ⟨rfl, rfl⟩

set_option maxRecDepth 100000 in
set_option maxHeartbeats 1000000 in
theorem refPow_ok (w : World) (a : Nat) (n : Int) (ha : a < 256) (hn : n ≠ 0) (h0 : a ≠ 0) :
    Calls Try.prog 27 #[.int .u8 a, .int .i64 n] w fun e w' => e = .returned (.int .u8 (pwI ((lg a : Int) * n) : Nat)) ∧ w = w' := by
  obtain ⟨r, hr⟩ : ∃ r, pwI ((lg a : Int) * n) = r := ⟨_, rfl⟩
  rw [hr]
  have HR := Lib.hid hr
  have HZ := Lib.hid h0
  have hb : (n == 0) = false := beq_eq_false_iff_ne.2 hn
  have ha0 : ((a : Int) == 0) = false := beq_eq_false_iff_ne.2 (by omega)
  have ht := tmod255 n
  obtain ⟨K, hK, hKl⟩ : ∃ K : Nat, (K : Int) = n % 255 ∧ K < 255 := ⟨(n % 255).toNat, by omega, by omega⟩
  have HK := Lib.hid hK
  obtain ⟨m, hm⟩ : ∃ m, n.tmod 255 = m := ⟨_, rfl⟩
  rw [hm] at ht
  clear hr hn h0
  by_cases hneg : m < 0
  · have hmk : m + 255 = (K : Int) := by omega
    clear ht hK
    go_enter Try.func27, Try.ntmps27
    go_wp2_with fail
    go_loop [6, 7] (fun x i => ∃ k p : Nat, k ≤ K ∧ i = .int .i64 k ∧ x = .int .u8 p ∧ p = pwI ((lg a : Int) * (k : Int)) ∧ p < 256) (fun _ i => K - (intOf i).toNat)
    case atStart => exact ⟨0, 1, by omega, rfl, rfl, by rw [show ((0 : Nat) : Int) = 0 from rfl, Int.mul_zero]; rfl, by omega⟩
    case round =>
      obtain ⟨k, p, hk, rfl, rfl, hp, hpl⟩ := hrel
      have HPP := Lib.hid hp
      clear hp
      by_cases hlt : k < K
      · obtain ⟨q, hq⟩ : ∃ q, gm p a = q := ⟨_, rfl⟩
        have hqe : q = pwI ((lg a : Int) * ((k + 1 : Nat) : Int)) := by
          have hA : pwI (lg a : Int) = a := by rw [pwI_nat, (pw_lg ha HZ.out).2]
          have h2 := pwI_add ((lg a : Int) * (k : Int)) (lg a : Int)
          rw [hA, ← HPP.out, hq] at h2
          rw [h2]
          exact pwI_congr (by rw [Int.natCast_add, Int.mul_add]; simp)
        have hql : q < 256 := by rw [← hq]; exact gm_lt hpl
        have HQ := Lib.hid hq
        have HQE := Lib.hid hqe
        clear hq hqe
        go_wp2_with fail
        refine (refMul_any _ p a hpl ha).mono ?_
        rintro e w2 ⟨rfl, rfl⟩
        rw [HQ.out]
        go_wp2_with fail
        go_round
        case rel => exact ⟨k + 1, q, by omega, by go_num, rfl, HQE.out, hql⟩
        case measure => simp [intOf]; omega
      · obtain rfl : k = K := by omega
        have hfin : p = r := by
          rw [HPP.out, ← HR.out]
          refine pwI_congr ?_
          rw [HK.out, Int.mul_emod, Int.emod_emod, ← Int.mul_emod]
        clear hlt
        subst hfin
        go_wp2_with fail
        go_ret
        exact ⟨rfl, rfl⟩

  · have hmk : m = (K : Int) := by omega
    subst hmk
    clear ht hK
    go_enter Try.func27, Try.ntmps27
    go_wp2_with fail
    go_loop [6, 7] (fun x i => ∃ k p : Nat, k ≤ K ∧ i = .int .i64 k ∧ x = .int .u8 p ∧ p = pwI ((lg a : Int) * (k : Int)) ∧ p < 256) (fun _ i => K - (intOf i).toNat)
    case atStart => exact ⟨0, 1, by omega, rfl, rfl, by rw [show ((0 : Nat) : Int) = 0 from rfl, Int.mul_zero]; rfl, by omega⟩
    case round =>
      obtain ⟨k, p, hk, rfl, rfl, hp, hpl⟩ := hrel
      have HPP := Lib.hid hp
      clear hp
      by_cases hlt : k < K
      · obtain ⟨q, hq⟩ : ∃ q, gm p a = q := ⟨_, rfl⟩
        have hqe : q = pwI ((lg a : Int) * ((k + 1 : Nat) : Int)) := by
          have hA : pwI (lg a : Int) = a := by rw [pwI_nat, (pw_lg ha HZ.out).2]
          have h2 := pwI_add ((lg a : Int) * (k : Int)) (lg a : Int)
          rw [hA, ← HPP.out, hq] at h2
          rw [h2]
          exact pwI_congr (by rw [Int.natCast_add, Int.mul_add]; simp)
        have hql : q < 256 := by rw [← hq]; exact gm_lt hpl
        have HQ := Lib.hid hq
        have HQE := Lib.hid hqe
        clear hq hqe
        go_wp2_with fail
        refine (refMul_any _ p a hpl ha).mono ?_
        rintro e w2 ⟨rfl, rfl⟩
        rw [HQ.out]
        go_wp2_with fail
        go_round
        case rel => exact ⟨k + 1, q, by omega, by go_num, rfl, HQE.out, hql⟩
        case measure => simp [intOf]; omega
      · obtain rfl : k = K := by omega
        have hfin : p = r := by
          rw [HPP.out, ← HR.out]
          refine pwI_congr ?_
          rw [HK.out, Int.mul_emod, Int.emod_emod, ← Int.mul_emod]
        clear hlt
        subst hfin
        go_wp2_with fail
        go_ret
        exact ⟨rfl, rfl⟩

theorem refPow_any (w : World) (a : Nat) (n : Int) (ha : a < 256) :
    Calls Try.prog 27 #[.int .u8 a, .int .i64 n] w fun e w' => e = .returned (.int .u8 (powR a n : Nat)) ∧ w = w' := by
  by_cases hn : n = 0
  · subst hn
    have e : powR a 0 = 1 := rfl
    rw [e]
    clear e
    go_enter Try.func27, Try.ntmps27
    go_wp2_with fail
    go_ret
    exact ⟨rfl, rfl⟩
  · by_cases h0 : a = 0
    · subst h0
      have e : powR 0 n = 0 := by unfold powR; rw [if_neg hn, if_pos rfl]
      rw [e]
      have hb : (n == 0) = false := beq_eq_false_iff_ne.2 hn
      clear e
      go_enter Try.func27, Try.ntmps27
      go_wp2_with fail
      go_ret
      exact ⟨rfl, rfl⟩
    · have e : powR a n = pwI ((lg a : Int) * n) := by unfold powR; rw [if_neg hn, if_neg h0]
      rw [e]
      exact refPow_ok w a n ha hn h0

theorem powR_two (n : Int) : powR 2 n = pw (n % 255).toNat := by
  have h : lg 2 = 1 := lg_pw (i := 1) (by omega)
  have e : powR 2 n = pwI ((lg 2 : Int) * n) := by
    unfold powR
    by_cases hn : n = 0
    · subst hn; rw [if_pos rfl, Int.mul_zero]; rfl
    · rw [if_neg hn, if_neg (by omega)]
  rw [e, h]
  unfold pwI
  congr 3
  omega
theorem refExp_any (w : World) (n : Int) :
    Calls Try.prog 28 #[.int .i64 n] w fun e w' => e = .returned (.int .u8 (pw (n % 255).toNat : Nat)) ∧ w = w' := by
  rw [← powR_two]
  obtain ⟨r, hr⟩ : ∃ r, powR 2 n = r := ⟨_, rfl⟩
  rw [hr]
  have HR := Lib.hid hr
  clear hr
  go_enter Try.func28, Try.ntmps28
  go_wp2_with fail
  refine (refPow_any _ 2 n (by omega)).mono ?_
  rintro e w2 ⟨rfl, rfl⟩
  rw [HR.out]
  go_wp2_with fail
  go_ret
  exact ⟨rfl, rfl⟩

theorem refDiv_any (w : World) (a b : Nat) (ha : a < 256) (hb : b < 256) :
    Calls Try.prog 24 #[.int .u8 a, .int .u8 b] w fun e w' => e = .returned (.tuple #[.int .u8 (gm a (invR b) : Nat), .bool (b != 0)]) ∧ w = w' := by
  obtain ⟨n, hn⟩ : ∃ n, invR b = n := ⟨_, rfl⟩
  obtain ⟨f, hf⟩ : ∃ f, (b != 0) = f := ⟨_, rfl⟩
  have hnl : n < 256 := by rw [← hn]; exact invR_lt b
  have hz : f = false → gm a n = 0 := fun h => by
    rw [h] at hf
    have h0 : b = 0 := by simpa using hf
    subst h0
    rw [← hn]
    exact gm_zero_right a
  rw [hn, hf]
  obtain ⟨P, hP⟩ : ∃ P, gm a n = P := ⟨_, rfl⟩
  rw [hP] at hz ⊢
  have HN := Lib.hid hn
  have HF := Lib.hid hf
  have HP := Lib.hid hP
  have HZ := Lib.hid hz
  clear hn hf hz hP
  go_enter Try.func24, Try.ntmps24
  go_wp2_with fail
  refine (refInv_any w b hb).mono ?_
  rintro e w1 ⟨rfl, rfl⟩
  rw [HN.out, HF.out]
  cases f
  · obtain rfl := HZ.out rfl
    go_wp2_with fail
    go_ret2
    exact ⟨rfl, rfl⟩
  · go_wp2_with fail
    refine (refMul_any _ a n ha hnl).mono ?_
    rintro e w2 ⟨rfl, rfl⟩
    rw [HP.out]
    go_wp2_with fail
    go_ret2
    exact ⟨rfl, rfl⟩
end Go.Proofs.Ytgmikgjdhldibaa
