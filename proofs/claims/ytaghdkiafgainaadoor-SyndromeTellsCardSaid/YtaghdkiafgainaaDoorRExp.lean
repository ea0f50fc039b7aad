/- The document's Exp, by itself. -/
import Derived.Test.YtaghdkiafgainaaDoorGExp
import Derived.Test.YtaghdkiafgainaaDoorRTimes
namespace Go.Proofs.YtaghdkiafgainaaDoor
set_option maxRecDepth 20000
open Go.RowKit Go.OpenShut

set_option maxRecDepth 100000 in
set_option maxHeartbeats 1000000 in
theorem refPow_two (w : World) (n : Int) (hn : n ≠ 0) :
    Calls Tryd.prog 41 #[.int .u8 2, .int .i64 n] w fun e w' => e = .returned (.int .u8 (pw (n % 255).toNat : Nat)) ∧ w = w' := by
  obtain ⟨r, hr⟩ : ∃ r, pw (n % 255).toNat = r := ⟨_, rfl⟩
  rw [hr]
  have HR := Lib.hid hr
  have hb : (n == 0) = false := beq_eq_false_iff_ne.2 hn
  have ht := tmod255 n
  obtain ⟨K, hK, hKl⟩ : ∃ K : Nat, (K : Int) = n % 255 ∧ K < 255 := ⟨(n % 255).toNat, by omega, by omega⟩
  have HK := Lib.hid hK
  obtain ⟨m, hm⟩ : ∃ m, n.tmod 255 = m := ⟨_, rfl⟩
  rw [hm] at ht
  clear hr hn
  by_cases hneg : m < 0
  · have hmk : m + 255 = (K : Int) := by omega
    clear ht hK
    go_enter Tryd.func41, Tryd.ntmps41
    go_wp2_with fail
    go_loop [6, 7] (fun x i => ∃ k p : Nat, k ≤ K ∧ i = .int .i64 k ∧ x = .int .u8 p ∧ p = pw k ∧ p < 256) (fun _ i => K - (intOf i).toNat)
    case atStart => exact ⟨0, 1, by omega, rfl, rfl, rfl, by omega⟩
    case round =>
      obtain ⟨k, p, hk, rfl, rfl, hp, hpl⟩ := hrel
      have HPP := Lib.hid hp
      clear hp
      by_cases hlt : k < K
      · obtain ⟨q, hq⟩ : ∃ q, gm p 2 = q := ⟨_, rfl⟩
        have hqe : q = pw (k + 1) := by rw [← hq, HPP.out, show (2 : Nat) = pw 1 from rfl, gm_pp]
        have hql : q < 256 := by rw [← hq]; exact gm_lt hpl
        have HQ := Lib.hid hq
        have HQE := Lib.hid hqe
        clear hq hqe
        go_wp2_with fail
        refine (refMul_any _ p 2 hpl (by omega)).mono ?_
        rintro e w2 ⟨rfl, rfl⟩
        rw [HQ.out]
        go_wp2_with fail
        go_round
        case rel => exact ⟨k + 1, q, by omega, by go_num, rfl, HQE.out, hql⟩
        case measure => simp [intOf]; omega
      · obtain rfl : k = K := by omega
        have hfin : p = r := by
          rw [HPP.out, ← HR.out, ← HK.out]
          rfl
        clear hlt
        subst hfin
        go_wp2_with fail
        go_ret
        exact ⟨rfl, rfl⟩

  · have hmk : m = (K : Int) := by omega
    subst hmk
    clear ht hK
    go_enter Tryd.func41, Tryd.ntmps41
    go_wp2_with fail
    go_loop [6, 7] (fun x i => ∃ k p : Nat, k ≤ K ∧ i = .int .i64 k ∧ x = .int .u8 p ∧ p = pw k ∧ p < 256) (fun _ i => K - (intOf i).toNat)
    case atStart => exact ⟨0, 1, by omega, rfl, rfl, rfl, by omega⟩
    case round =>
      obtain ⟨k, p, hk, rfl, rfl, hp, hpl⟩ := hrel
      have HPP := Lib.hid hp
      clear hp
      by_cases hlt : k < K
      · obtain ⟨q, hq⟩ : ∃ q, gm p 2 = q := ⟨_, rfl⟩
        have hqe : q = pw (k + 1) := by rw [← hq, HPP.out, show (2 : Nat) = pw 1 from rfl, gm_pp]
        have hql : q < 256 := by rw [← hq]; exact gm_lt hpl
        have HQ := Lib.hid hq
        have HQE := Lib.hid hqe
        clear hq hqe
        go_wp2_with fail
        refine (refMul_any _ p 2 hpl (by omega)).mono ?_
        rintro e w2 ⟨rfl, rfl⟩
        rw [HQ.out]
        go_wp2_with fail
        go_round
        case rel => exact ⟨k + 1, q, by omega, by go_num, rfl, HQE.out, hql⟩
        case measure => simp [intOf]; omega
      · obtain rfl : k = K := by omega
        have hfin : p = r := by
          rw [HPP.out, ← HR.out, ← HK.out]
          rfl
        clear hlt
        subst hfin
        go_wp2_with fail
        go_ret
        exact ⟨rfl, rfl⟩

theorem refExp_any (w : World) (n : Int) :
    Calls Tryd.prog 25 #[.int .i64 n] w fun e w' => e = .returned (.int .u8 (pw (n % 255).toNat : Nat)) ∧ w = w' := by
  have HP : Hid (∀ w : World, Calls Tryd.prog 41 #[.int .u8 2, .int .i64 n] w fun e w' => e = .returned (.int .u8 (pw (n % 255).toNat : Nat)) ∧ w = w') := Lib.hid (by
    intro w
    by_cases hn : n = 0
    · subst hn
      have e : pw ((0 : Int) % 255).toNat = 1 := rfl
      rw [e]
      clear e
      go_enter Tryd.func41, Tryd.ntmps41
      go_wp2_with fail
      go_ret
      exact ⟨rfl, rfl⟩
    · exact refPow_two w n hn)
  obtain ⟨r, hr⟩ : ∃ r, pw (n % 255).toNat = r := ⟨_, rfl⟩
  rw [hr] at HP ⊢
  clear hr
  go_enter Tryd.func25, Tryd.ntmps25
  go_wp2_with fail
  refine (HP.out _).mono ?_
  rintro e w2 ⟨rfl, rfl⟩
  go_wp2_with fail
  go_ret
  exact ⟨rfl, rfl⟩
end Go.Proofs.YtaghdkiafgainaaDoor
