/- gf: powers. -/
import Derived.Test.YtaghdkiafgainaaDoorGfFresh
namespace Go.Proofs.YtaghdkiafgainaaDoor
set_option maxRecDepth 20000
open Go.RowKit Go.OpenShut

theorem tmod255 (n : Int) : n.tmod 255 = n % 255 ∨ (n % 255 ≠ 0 ∧ n.tmod 255 = n % 255 - 255) := by
  by_cases h : 0 ≤ n
  · left
    exact Int.tmod_eq_emod_of_nonneg h
  · have h1 := Int.neg_tmod (-n) 255
    rw [Int.neg_neg, Int.tmod_eq_emod_of_nonneg (show 0 ≤ -n by omega)] at h1
    omega
theorem power_idx (n : Int) : (wrap64 (n.tmod 255 + 255)).tmod 255 = (((n % 255).toNat : Nat) : Int) := by
  have h1 := tmod255 n
  have h2 : wrap64 (n.tmod 255 + 255) = n.tmod 255 + 255 := by
    unfold wrap64
    omega
  rw [h2, Int.tmod_eq_emod_of_nonneg (by omega)]
  omega

set_option maxHeartbeats 1000000 in
theorem power_any (w : World) (g : Nat) (n : Int) (h : Tab w g) :
    Calls Tryd.prog 39 #[.pointer (some ⟨g, 0, none⟩), .int .i64 n] w fun e w' => e = .returned (.int .u8 (pw (n % 255).toNat : Nat)) ∧ w = w' := by
  have hi := power_idx n
  obtain ⟨k, hk, hk255⟩ : ∃ k : Nat, (n % 255).toNat = k ∧ k < 255 := ⟨_, rfl, by omega⟩
  rw [hk] at hi ⊢
  have hc := h.e1 k hk255
  clear hk
  go_enter Tryd.func39, Tryd.ntmps39
  go_wp2_with fail
  go_ret
  exact ⟨rfl, rfl⟩

theorem Tab.lg {w : World} {g : Nat} (h : Tab w g) {a : Nat} (ha : a < 256) (h0 : a ≠ 0) : w.cell? ⟨g, 514 + a, none⟩ = some (.int .i64 (lg a : Nat)) := by
  obtain ⟨h1, h2⟩ := pw_lg ha h0
  have h3 := h.lo (Go.Proofs.YtaghdkiafgainaaDoor.lg a) h1
  rw [h2] at h3
  exact h3
theorem Tab.drew {w : World} {g : Nat} (h : Tab w g) : Tab w.drew g := ⟨h.e1, h.e2, h.lo, h.made⟩

set_option maxHeartbeats 1000000 in
theorem exp_any (w : World) (n : Int) :
    Calls Tryd.prog 22 #[.int .i64 n] w fun e w' => e = .returned (.int .u8 (pw (n % 255).toNat : Nat)) ∧ Below w.heap.size w w' := by
  obtain ⟨k, hk⟩ : ∃ k : Nat, (n % 255).toNat = k := ⟨_, rfl⟩
  rw [hk]
  have HK := Lib.hid hk
  clear hk
  go_enter Tryd.func22, Tryd.ntmps22
  go_wp2_with fail
  refine (fresh_any w).mono ?_
  rintro e w1 ⟨rfl, ht, hb, hs⟩
  have HT := Lib.hid ht
  clear ht
  go_wp2_with fail
  refine (power_any _ _ _ HT.out).mono ?_
  rintro e w2 ⟨rfl, rfl⟩
  rw [HK.out]
  go_wp2_with fail
  go_ret
  exact ⟨rfl, hb⟩

end Go.Proofs.YtaghdkiafgainaaDoor
