/- syndrome: texts that are added. -/
import Derived.Test.YtaghdkiafgainaaDoorStrs
import Derived.Test.YtaghdkiafgainaaDoorGXor
namespace Go.Proofs.YtaghdkiafgainaaDoor
set_option maxRecDepth 20000
open Go.RowKit Go.OpenShut

def addL (xs : List ByteArray) : List UInt8 := xs.foldl (fun s x => xorL s x.data.toList) []
theorem addL_snoc (xs : List ByteArray) (x : ByteArray) : addL (xs ++ [x]) = xorL (addL xs) x.data.toList := by simp [addL]
theorem addL_len (M : Nat) : ∀ (xs : List ByteArray), (∀ x ∈ xs, x.size ≤ M) → (addL xs).length ≤ M := by
  intro xs
  unfold addL
  suffices h : ∀ (acc : List UInt8), acc.length ≤ M → (∀ x ∈ xs, x.size ≤ M) → (xs.foldl (fun s x => xorL s x.data.toList) acc).length ≤ M from h [] (by simp)
  induction xs with
  | nil => intro acc h _; exact h
  | cons a l ih =>
    intro acc h hx
    refine ih _ ?_ (fun x hm => hx x (by simp [hm]))
    rw [xorL_length]
    have h1 := hx a (by simp)
    have h2 : a.data.toList.length = a.size := by simp
    omega
theorem size_mk (l : List UInt8) : (ByteArray.mk l.toArray).size = l.length := by show Array.size _ = _; simp
theorem mk_list (l : List UInt8) : (ByteArray.mk l.toArray).data.toList = l := by simp

set_option maxHeartbeats 1000000 in
theorem added_any (w : World) (B : Nat) (A : Option Addr) (n c : Nat) (xs : List ByteArray) (h : StrsA w B A n xs) (hB : B ≤ w.heap.size) (hn : n ≤ 4294967295) (hx : ∀ x ∈ xs, x.size ≤ 4294967295) :
    Calls Tryd.prog 17 #[.slice A n c] w fun e w' => e = .returned (.string ⟨(addL xs).toArray⟩) ∧ Below w.heap.size w w' := by
  have HL := Lib.hid h.1
  have HX := Lib.hid hx
  have HM := Lib.hid (fun k => addL_len 4294967295 (xs.take k) (fun x hm => hx x (List.mem_of_mem_take hm)))
  clear hx
  go_enter Tryd.func17, Tryd.ntmps17
  go_wp2
  go_loopw [3, 8] (fun s i wr => ∃ k : Nat, k ≤ n ∧ i = .int .i64 k ∧ s = .string ⟨(addL (xs.take k)).toArray⟩ ∧ Below w.heap.size w wr) (fun _ i _ => n - (intOf i).toNat)
  case atStart => exact ⟨0, by omega, rfl, by simp [addL], Below.refl _ _⟩
  case round =>
    obtain ⟨k, hk, rfl, rfl, hb⟩ := hrel
    by_cases hlt : k < n
    · obtain ⟨b, off, rfl, hbB, hc⟩ := (h.below (hb.mono hB)).2 (by omega)
      have hck := hc k hlt
      have hmem : xs.getD k ⟨#[]⟩ ∈ xs := by
        have : k < xs.length := by rw [HL.out]; exact hlt
        simp [List.getD, this]
      have HN := Lib.hid (take_snocS xs k (by rw [HL.out]; exact hlt))
      have HXK := Lib.hid (HX.out _ hmem)
      generalize xs.getD k ⟨#[]⟩ = x at *
      have HMK := Lib.hid (HM.out k)
      generalize hacc : addL (xs.take k) = acc at *
      have HACC := Lib.hid hacc
      clear hacc hc hmem
      go_wp2_with fail
      refine (xor_any _ ⟨acc.toArray⟩ x (by rw [size_mk]; exact HMK.out) HXK.out).mono ?_
      rintro e w1 ⟨rfl, hb1⟩
      have hb2 := hb.trans (hb1.mono hb.size)
      clear hb1
      rw [mk_list]
      go_wp2_with fail
      go_roundw
      case rel => exact ⟨k + 1, by omega, by go_num, by rw [HN.out, addL_snoc, HACC.out], hb2⟩
      case measure => simp [intOf]; omega
    · obtain rfl : k = n := by omega
      go_wp2
      go_ret
      refine ⟨?_, hb⟩
      rw [List.take_of_length_le (by rw [HL.out]; exact Nat.le_refl _)]
      rfl
theorem P_any (w : World) (B : Nat) (A : Option Addr) (n c : Nat) (xs : List ByteArray) (h : StrsA w B A n xs) (hB : B ≤ w.heap.size) (hn : n ≤ 4294967295) (hx : ∀ x ∈ xs, x.size ≤ 4294967295) :
    Calls Tryd.prog 7 #[.slice A n c] w fun e w' => e = .returned (.string ⟨(addL xs).toArray⟩) ∧ Below w.heap.size w w' := by
  have H := Lib.hid (fun w' (hw : w = w') => hw ▸ added_any w B A n c xs h hB hn hx)
  clear h hx
  go_enter Tryd.func7, Tryd.ntmps7
  go_wp2_with fail
  refine (H.out _ rfl).mono ?_
  rintro e w1 ⟨rfl, hb⟩
  go_wp2_with fail
  go_ret
  exact ⟨rfl, hb⟩
end Go.Proofs.YtaghdkiafgainaaDoor
