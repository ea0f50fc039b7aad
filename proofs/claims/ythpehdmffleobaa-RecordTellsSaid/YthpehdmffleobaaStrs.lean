/- A slice of strings that can be read. -/
import Derived.Test.YthpehdmffleobaaB1
namespace Go.Proofs.Ythpehdmffleobaa
open Go.RowKit Go.OpenShut

def StrsA (w : World) (B : Nat) (A : Option Addr) (n : Nat) (xs : List ByteArray) : Prop :=
  xs.length = n ∧ (0 < n → ∃ b off, A = some ⟨b, off, none⟩ ∧ b < B ∧ ∀ j, j < n → w.cell? ⟨b, off + j, none⟩ = some (.string (xs.getD j ⟨#[]⟩)))
section
variable {w w' : World} {B B' : Nat} {A : Option Addr} {n : Nat} {xs : List ByteArray}
theorem StrsA.below (h : StrsA w B A n xs) (hb : Below B w w') : StrsA w' B A n xs :=
  ⟨h.1, fun h0 => by
    obtain ⟨b, off, e, hlt, hc⟩ := h.2 h0
    exact ⟨b, off, e, hlt, fun j hj => (hb.cell (p := ⟨b, off + j, none⟩) hlt).trans (hc j hj)⟩⟩
theorem StrsA.mono (h : StrsA w B A n xs) (hB : B ≤ B') : StrsA w B' A n xs :=
  ⟨h.1, fun h0 => by
    obtain ⟨b, off, e, hlt, hc⟩ := h.2 h0
    exact ⟨b, off, e, Nat.lt_of_lt_of_le hlt hB, hc⟩⟩
theorem StrsA.drew (h : StrsA w B A n xs) : StrsA w.drew B A n xs := h
theorem StrsA.blk {g : Nat} {t : TypeId} (h : Blk w g t (xs.map Value.string).toArray) (hn : xs.length = n) (hB : g < B) : StrsA w B (some ⟨g, 0, none⟩) n xs := by
  refine ⟨hn, fun _ => ⟨g, 0, rfl, hB, fun j hj => ?_⟩⟩
  rw [h.cell, Nat.zero_add]
  simp [List.getD, hn ▸ hj]
theorem StrsA.take (h : StrsA w B A n xs) (k : Nat) (hk : k ≤ n) : StrsA w B A k (xs.take k) := by
  refine ⟨by rw [List.length_take, h.1]; omega, fun h0 => ?_⟩
  obtain ⟨b, off, e, hlt, hc⟩ := h.2 (by omega)
  refine ⟨b, off, e, hlt, fun j hj => ?_⟩
  rw [hc j (by omega)]
  simp [List.getD, hj]
theorem StrsA.drop {b off : Nat} (h : StrsA w B (some ⟨b, off, none⟩) n xs) (k : Nat) (_hk : k ≤ n) : StrsA w B (some ⟨b, off + k, none⟩) (n - k) (xs.drop k) := by
  refine ⟨by rw [List.length_drop, h.1], fun h0 => ?_⟩
  obtain ⟨b', off', e, hlt, hc⟩ := h.2 (by omega)
  cases e
  refine ⟨b, off + k, rfl, hlt, fun j hj => ?_⟩
  rw [Nat.add_assoc, hc (k + j) (by omega)]
  simp [List.getD]
end
theorem take_snocS (l : List ByteArray) (k : Nat) (h : k < l.length) : l.take (k + 1) = l.take k ++ [l.getD k ⟨#[]⟩] := by
  rw [List.take_succ_eq_append_getElem h]
  simp [List.getD, h]
end Go.Proofs.Ythpehdmffleobaa
