/- revetmentlaw12's heavy. -/
import Derived.Test.YthpehdmffleobaaOwnS
namespace Go.Proofs.Ythpehdmffleobaa
open Go.RowKit Go.OpenShut

def heavyB (xs : List ByteArray) : Bool := decide (50 < xs.length) || xs.any fun x => decide (100 < x.size)
theorem heavyB_no (xs : List ByteArray) : heavyB xs = false ↔ xs.length ≤ 50 ∧ ∀ x ∈ xs, x.size ≤ 100 := by
  unfold heavyB
  rw [Bool.or_eq_false_iff, decide_eq_false_iff_not, List.any_eq_false]
  simp only [decide_eq_true_eq]
  constructor
  · rintro ⟨h1, h2⟩
    exact ⟨by omega, fun x hx => by have := h2 x hx; omega⟩
  · rintro ⟨h1, h2⟩
    exact ⟨by omega, fun x hx => by have := h2 x hx; omega⟩
theorem heavyB_at (xs : List ByteArray) (x : ByteArray) (hx : x ∈ xs) (h : 100 < x.size) : heavyB xs = true := by
  unfold heavyB
  rw [Bool.or_eq_true, List.any_eq_true]
  exact Or.inr ⟨x, hx, by simpa using h⟩
theorem mem_getD {xs : List ByteArray} {k : Nat} (h : k < xs.length) : xs.getD k ⟨#[]⟩ ∈ xs := by simp [List.getD, h]
set_option maxHeartbeats 1000000 in
theorem heavy_any (w : World) (A : Option Addr) (n c : Nat) (xs : List ByteArray) (h : StrsA w w.heap.size A n xs) (hn : n ≤ maxLen) :
    Calls Try.prog 11 #[.slice A n c] w fun e w' => e = .returned (.bool (heavyB xs)) ∧ w = w' := by
  unfold maxLen at hn
  have HL := Lib.hid h.1
  by_cases h50 : 50 < n
  · have hh : heavyB xs = true := by unfold heavyB; rw [h.1, decide_eq_true h50]; rfl
    rw [hh]
    clear hh h
    go_enter Try.func11, Try.ntmps11
    go_wp2_with fail
    go_ret
    exact ⟨rfl, rfl⟩
  · have HNO := Lib.hid (fun (hall : ∀ j, j < n → (xs.getD j ⟨#[]⟩).size ≤ 100) => (heavyB_no xs).2 ⟨by rw [h.1]; omega, fun x hx => by
      obtain ⟨j, hj, rfl⟩ := List.mem_iff_getElem.1 hx
      have := hall j (by rw [← h.1]; exact hj)
      simpa [List.getD, hj] using this⟩)
    have HYES := Lib.hid (fun (k : Nat) (hk : k < n) => heavyB_at xs _ (mem_getD (k := k) (by rw [h.1]; exact hk)))
    have hn50 : n ≤ 50 := by omega
    go_enter Try.func11, Try.ntmps11
    go_wp2
    go_loop [3] (fun i => ∃ k : Nat, k ≤ n ∧ i = .int .i64 k ∧ ∀ j, j < k → (xs.getD j ⟨#[]⟩).size ≤ 100) (fun i => n - (intOf i).toNat)
    case atStart => exact ⟨0, by omega, rfl, fun j hj => by omega⟩
    case round =>
      obtain ⟨k, hk, rfl, hall⟩ := hrel
      have HA := Lib.hid hall
      clear hall
      by_cases hlt : k < n
      · obtain ⟨b, off, rfl, hbB, hc⟩ := h.2 (by omega)
        have hck := hc k hlt
        have HY := Lib.hid (HYES.out k hlt)
        have HAK := Lib.hid (fun (hx : (xs.getD k ⟨#[]⟩).size ≤ 100) j (hj : j < k + 1) => show (xs.getD j ⟨#[]⟩).size ≤ 100 by
          by_cases e : j = k
          · subst e; exact hx
          · exact HA.out j (by omega))
        generalize xs.getD k ⟨#[]⟩ = x at *
        clear hc h
        by_cases h2 : 100 < x.size
        · go_wp2_with fail
          go_ret
          rw [HY.out h2]
          exact ⟨rfl, rfl⟩
        · go_wp2_with fail
          go_round
          case rel => exact ⟨k + 1, by omega, by go_num, HAK.out (by omega)⟩
          case measure => simp [intOf]; omega
      · obtain rfl : k = n := by omega
        go_wp2
        go_ret
        rw [HNO.out HA.out]
        exact ⟨rfl, rfl⟩

end Go.Proofs.Ythpehdmffleobaa
