import Derived.Test.YtgmikgjdhldibaaGfFresh
namespace Go.Proofs.Ytgmikgjdhldibaa
open Go.RowKit Go.OpenShut

theorem tmod255 (n : Int) : n.tmod 255 = n % 255 ∨ (n % 255 ≠ 0 ∧ n.tmod 255 = n % 255 - 255) := by
  by_cases h : 0 ≤ n
  · left
    exact Int.tmod_eq_emod_of_nonneg h
  · have h1 := Int.neg_tmod (-n) 255
    rw [Int.neg_neg, Int.tmod_eq_emod_of_nonneg (show 0 ≤ -n by omega)] at h1
    omega
theorem power_idx (n : Int) : (wrap64 (n.tmod 255 + 255)).tmod 255 = (((n % 255).toNat : Nat) : Int) := by
  have h1 := tmod255 n
  have h2 : wrap64 (n.tmod 255 + 255) = n.tmod 255 + 255 := by
    unfold wrap64
    omega
  rw [h2, Int.tmod_eq_emod_of_nonneg (by omega)]
  omega

set_option maxHeartbeats 1000000 in
theorem power_any (w : World) (g : Nat) (n : Int) (h : Tab w g) :
    Calls Try.prog 30 #[.pointer (some ⟨g, 0, none⟩), .int .i64 n] w fun e w' => e = .returned (.int .u8 (pw (n % 255).toNat : Nat)) ∧ w = w' := by
  have hi := power_idx n
  obtain ⟨k, hk, hk255⟩ : ∃ k : Nat, (n % 255).toNat = k ∧ k < 255 := ⟨_, rfl, by omega⟩
  rw [hk] at hi ⊢
  have hc := h.e1 k hk255
  clear hk
  go_enter Try.func30, Try.ntmps30
  go_wp2_with fail
  go_ret
  exact ⟨rfl, rfl⟩

theorem made_any (w : World) (a : Addr) (h0 : w.cell? a = some (.int .i32 1)) :
    Calls Try.prog 31 #[.pointer (some a)] w fun e w' => e = .returned (.int .i32 1) ∧ w = w' := by
  have hl := run_call_load (P := Try.prog) Try.func34 (by kernel_rfl) (by kernel_rfl) (by kernel_rfl) .i32 (by kernel_rfl) h0
  go_enter Try.func31, Try.ntmps31
  go_wp2
  go_ret
  exact ⟨rfl, rfl⟩
theorem Tab.lg {w : World} {g : Nat} (h : Tab w g) {a : Nat} (ha : a < 256) (h0 : a ≠ 0) : w.cell? ⟨g, 514 + a, none⟩ = some (.int .i64 (lg a : Nat)) := by
  obtain ⟨h1, h2⟩ := pw_lg ha h0
  have h3 := h.lo (Go.Proofs.Ytgmikgjdhldibaa.lg a) h1
  rw [h2] at h3
  exact h3
theorem Tab.drew {w : World} {g : Nat} (h : Tab w g) : Tab w.drew g := ⟨h.e1, h.e2, h.lo, h.made⟩
theorem inv_pow (a : Nat) (h : lg a < 255) : pw ((-(lg a : Int)) % 255).toNat = inv a := by
  unfold inv
  congr 1
  omega

set_option maxRecDepth 100000 in
set_option maxHeartbeats 1000000 in
theorem inv_ok (w : World) (a : Nat) (ha : a < 256) (h0 : 0 < a) :
    Calls Try.prog 14 #[.int .u8 a] w fun e w' => e = .returned (.tuple #[.int .u8 (inv a : Nat), .bool true]) ∧ Below w.heap.size w w' := by
  go_enter Try.func14, Try.ntmps14
  go_wp2_with fail
  refine (fresh_any w).mono ?_
  rintro e w1 ⟨rfl, ht, hb, hs⟩
  have hlg := (pw_lg ha (by omega)).1
  have hip := inv_pow a hlg
  have hlc := ht.lg ha (by omega)
  generalize lg a = L at *
  have HT := Lib.hid ht.drew
  have hwl : wrap64 (-(L : Int)) = -(L : Int) := by unfold wrap64; omega
  go_wp2_with fail
  refine wp_region_nf (fun V => V.cell? ⟨w.heap.size, 514 + a, none⟩ = some (.int .i64 (L : Int))) (fun _ => false) [(0, true), (1, true), (2, true), (3, true), (4, true), (5, true), (6, true), (7, true), (9, true), (10, true), (11, true), (8, false), (12, false), (13, true), (14, true), (15, true)] (by kernel_rfl) rfl (by kernel_rfl) (by kernel_rfl) (fun d _ _ _ _ h => by cases d <;> exact h) ?_
  have hS : w1.drew.cell? ⟨w.heap.size, 514 + a, none⟩ = some (.int .i64 (L : Int)) := hlc
  repeat (refine nf_pure rfl hS (fun w1 g1 => by go_wp2; exact ⟨rfl, rfl, rfl⟩) rfl ?_ ?_; rfl)
  refine nf_imp rfl ?_
  go_wp2_with fail
  refine (power_any _ _ _ HT.out).mono ?_
  rintro e w2 ⟨rfl, rfl⟩
  go_wp2_with fail
  refine ⟨fun _ => hS, ?_⟩
  refine nf_imp rfl ?_
  go_wp2_with fail
  refine (made_any _ _ HT.out.made).mono ?_
  rintro e w2 ⟨rfl, rfl⟩
  go_wp2_with fail
  refine ⟨fun _ => hS, ?_⟩
  repeat (refine nf_pure rfl hS (fun w1 g1 => by go_wp2; exact ⟨rfl, rfl, rfl⟩) rfl ?_ ?_; rfl)
  refine nf_nil ?_
  go_wp2_with fail
  go_ret2
  exact ⟨rfl, hb.drew⟩

def invR (a : Nat) : Nat := if a = 0 then 0 else inv a
theorem invR_lt (a : Nat) : invR a < 256 := by
  unfold invR
  split
  · omega
  · exact inv_lt a
theorem inv_any (w : World) (a : Nat) (ha : a < 256) :
    Calls Try.prog 14 #[.int .u8 a] w fun e w' => e = .returned (.tuple #[.int .u8 (invR a : Nat), .bool (a != 0)]) ∧ Below w.heap.size w w' := by
  by_cases h0 : a = 0
  · subst h0
    go_enter Try.func14, Try.ntmps14
    go_wp2_with fail
    go_ret2
    exact ⟨rfl, Below.refl _ _⟩
  · have h1 : (a != 0) = true := by simp [h0]
    have h2 : invR a = inv a := by unfold invR; rw [if_neg h0]
    rw [h1, h2]
    exact inv_ok w a ha (by omega)

set_option maxHeartbeats 1000000 in
theorem exp_any (w : World) (n : Int) :
    Calls Try.prog 22 #[.int .i64 n] w fun e w' => e = .returned (.int .u8 (pw (n % 255).toNat : Nat)) ∧ Below w.heap.size w w' := by
  obtain ⟨k, hk⟩ : ∃ k : Nat, (n % 255).toNat = k := ⟨_, rfl⟩
  rw [hk]
  have HK := Lib.hid hk
  clear hk
  go_enter Try.func22, Try.ntmps22
  go_wp2_with fail
  refine (fresh_any w).mono ?_
  rintro e w1 ⟨rfl, ht, hb, hs⟩
  have HT := Lib.hid ht
  clear ht
  go_wp2_with fail
  refine (power_any _ _ _ HT.out).mono ?_
  rintro e w2 ⟨rfl, rfl⟩
  rw [HK.out]
  go_wp2_with fail
  go_ret
  exact ⟨rfl, hb⟩

set_option maxHeartbeats 1000000 in
theorem log_ok (w : World) (a : Nat) (ha : a < 256) (h0 : 0 < a) :
    Calls Try.prog 21 #[.int .u8 a] w fun e w' => e = .returned (.tuple #[.int .i64 (lg a : Nat), .bool true]) ∧ Below w.heap.size w w' := by
  go_enter Try.func21, Try.ntmps21
  go_wp2_with fail
  refine (fresh_any w).mono ?_
  rintro e w1 ⟨rfl, ht, hb, hs⟩
  have hlc := ht.lg ha (by omega)
  clear ht
  go_wp2_with fail
  go_ret2
  exact ⟨rfl, hb⟩
def lgR (a : Nat) : Nat := if a = 0 then 0 else lg a
theorem log_any (w : World) (a : Nat) (ha : a < 256) :
    Calls Try.prog 21 #[.int .u8 a] w fun e w' => e = .returned (.tuple #[.int .i64 (lgR a : Nat), .bool (a != 0)]) ∧ Below w.heap.size w w' := by
  by_cases h0 : a = 0
  · subst h0
    go_enter Try.func21, Try.ntmps21
    go_wp2_with fail
    go_ret2
    exact ⟨rfl, Below.refl _ _⟩
  · have h1 : (a != 0) = true := by simp [h0]
    have h2 : lgR a = lg a := by unfold lgR; rw [if_neg h0]
    rw [h1, h2]
    exact log_ok w a ha (by omega)

set_option maxHeartbeats 1000000 in
theorem div_any (w : World) (a b : Nat) (ha : a < 256) (hb : b < 256) :
    Calls Try.prog 15 #[.int .u8 a, .int .u8 b] w fun e w' => e = .returned (.tuple #[.int .u8 (gm a (invR b) : Nat), .bool (b != 0)]) ∧ Below w.heap.size w w' := by
  have hil := invR_lt b
  obtain ⟨n, hn⟩ : ∃ n, invR b = n := ⟨_, rfl⟩
  obtain ⟨f, hf⟩ : ∃ f, (b != 0) = f := ⟨_, rfl⟩
  rw [hn] at hil
  rw [hn, hf]
  have HN := Lib.hid hn
  have HF := Lib.hid hf
  clear hn hf
  go_enter Try.func15, Try.ntmps15
  go_wp2_with fail
  refine (inv_any w b hb).mono ?_
  rintro e w1 ⟨rfl, hbe⟩
  rw [HN.out, HF.out]
  go_wp2_with fail
  refine (mul_any _ a n ha hil).mono ?_
  rintro e w2 ⟨rfl, rfl⟩
  go_wp2_with fail
  go_ret2
  exact ⟨rfl, hbe⟩
end Go.Proofs.Ytgmikgjdhldibaa
