/- gf.Xor. -/
import Derived.Test.YtaghdkiafgainaaDoorXor0
import Derived.Test.YtaghdkiafgainaaDoorNF
namespace Go.Proofs.YtaghdkiafgainaaDoor
set_option maxRecDepth 20000
open Go.RowKit Go.OpenShut

def xorK (a b : List UInt8) (k : Nat) : List UInt8 := (List.range a.length).map fun i => if i < k then a.getD i 0 ^^^ b.getD i 0 else a.getD i 0
theorem xorK_len (a b : List UInt8) (k : Nat) : (xorK a b k).length = a.length := by simp [xorK]
theorem xorK_zero (a b : List UInt8) : xorK a b 0 = a := by
  apply List.ext_getElem
  · simp [xorK]
  · intro i h1 h2
    simp [xorK, List.getD, h2]
theorem xorK_get (a b : List UInt8) (k i : Nat) (h : i < a.length) : (xorK a b k)[i]'(by rw [xorK_len]; exact h) = if i < k then a.getD i 0 ^^^ b.getD i 0 else a.getD i 0 := by simp [xorK]
theorem xorK_set (a b : List UInt8) (k : Nat) : (xorK a b k).set k (a.getD k 0 ^^^ b.getD k 0) = xorK a b (k + 1) := by
  apply List.ext_getElem
  · simp [xorK]
  · intro i h1 h2
    rw [xorK_len] at h2
    rw [xorK_get _ _ _ _ h2, List.getElem_set]
    by_cases e : k = i
    · subst e
      rw [if_pos rfl, if_pos (by omega)]
    · rw [if_neg e, xorK_get _ _ _ _ h2]
      by_cases h : i < k
      · rw [if_pos h, if_pos (by omega)]
      · rw [if_neg h, if_neg (by omega)]
theorem xorK_all (a b : List UInt8) (h : b.length ≤ a.length) : xorK a b b.length = xorL a b := by
  unfold xorK xorL
  rw [Nat.max_eq_left h]
  refine List.map_congr_left fun i _ => ?_
  split
  · rfl
  · rename_i hi
    have : b.getD i 0 = 0 := by simp [List.getD, List.getElem?_eq_none (show b.length ≤ i by omega)]
    rw [this]
    simp
theorem xorL_comm (a b : List UInt8) : xorL a b = xorL b a := by
  unfold xorL
  rw [Nat.max_comm]
  refine List.map_congr_left fun i _ => UInt8.xor_comm _ _

set_option maxRecDepth 100000 in
set_option maxHeartbeats 2000000 in
theorem xor_core (w : World) (s t : ByteArray) (hs : s.size ≤ 4294967295) (hts : t.size ≤ s.size) (s0 t0 : ByteArray) (hcase : (s0 = s ∧ t0 = t) ∨ (s0 = t ∧ t0 = s ∧ t.size < s.size)) :
    Calls Tryd.prog 27 #[.string s0, .string t0] w fun e w' => e = .returned (.string ⟨(xorL s.data.toList t.data.toList).toArray⟩) ∧ Below w.heap.size w w' := by
  have hcs := fun W => Lib.run_convert_string_bytes (P := Tryd.prog) W 9 26 5 s Tryd.underlying9 Tryd.underlying26 Tryd.underlying5
  have hrow := BRow.of_string w s
  have hb := below_bytes w s
  have hls : s.data.toList.length = s.size := by simp
  have hlt : t.data.toList.length = t.size := by simp
  obtain ⟨X, hX⟩ : ∃ X, xorL s.data.toList t.data.toList = X := ⟨_, rfl⟩
  rw [hX]
  have hXk := xorK_all s.data.toList t.data.toList (by omega)
  rw [hlt, hX] at hXk
  have HX := Lib.hid hXk
  clear hX hXk
  rcases hcase with ⟨rfl, rfl⟩ | ⟨rfl, rfl, hlt⟩
  · have hn : ¬ s0.size < t0.size := by omega
    go_enter Tryd.func27, Tryd.ntmps27
    go_wp2_with fail
    generalize Lib.bytesWorld w 5 s0 = W at *
    generalize grownCap w s0.size 0 5 = gc at *
    clear hcs
    have hS0 : t0.data.toList.length = t0.size := by simp
    have hL0 : s0.data.toList.length = s0.size := by simp
    go_loopw [18] (fun i wr => ∃ k : Nat, k ≤ t0.size ∧ i = .int .i64 k ∧ BRow wr w.heap.size (xorK s0.data.toList t0.data.toList k) ∧ Below w.heap.size w wr) (fun i _ => t0.size - (intOf i).toNat)
    case atStart => exact ⟨0, by omega, rfl, by rw [xorK_zero]; exact hrow, hb⟩
    case round =>
      obtain ⟨k, hk, rfl, hr, hbe⟩ := hrel
      have hlen := xorK_len s0.data.toList t0.data.toList k
      clear hrow hb
      by_cases hlk : k < t0.size
      · have hkL : k < s0.data.toList.length := by omega
        have hc := hr.1 k (by omega)
        have hf := hr.2 k (by omega)
        rw [xorK_get _ _ _ _ hkL, if_neg (by omega)] at hc
        have hset := hr.set_ k (by omega) (s0.data.toList.getD k 0 ^^^ t0.data.toList.getD k 0)
        rw [xorK_set, data_getD t0 k hlk] at hset
        generalize s0.data.toList.getD k 0 = x at *
        have hx := xor_u8 x t0[k]
        obtain ⟨y, hy, hye⟩ : ∃ y : UInt8, bits BinOp.xor IntKind.u8 (x.toNat : Int) (t0[k].toNat : Int) = (y.toNat : Int) ∧ y = x ^^^ t0[k] := ⟨_, hx, rfl⟩
        rw [← hye] at hset
        unfold bc at hc
        have HS := Lib.hid hset
        clear hset hr hx hye hlen
        go_wp2_with fail
        refine wp_region_nf (fun V => V.cell? ⟨w.heap.size, k, none⟩ = some (.int .u8 (x.toNat : Int))) (fun j => j == 9) [(0, true), (1, true), (2, true), (3, true), (4, true), (5, true), (6, true), (7, true), (8, true), (9, false)] (by kernel_rfl) rfl (by kernel_rfl) (by kernel_rfl) (fun d _ _ _ _ h => by cases d <;> exact h) ?_
        have hSS : wr.drew.cell? ⟨w.heap.size, k, none⟩ = some (.int .u8 (x.toNat : Int)) := hc
        repeat (refine nf_pure rfl hSS (fun w1 g1 => by go_wp2; exact ⟨rfl, rfl, rfl⟩) rfl ?_ ?_; rfl)
        refine nf_imp rfl ?_
        go_wp2_with fail
        refine ⟨fun h => (by cases h), ?_⟩
        refine nf_nil ?_
        go_wp2_with fail
        go_roundw
        case rel => exact ⟨k + 1, by omega, by go_num, HS.out.drew, (hbe.setCell (Nat.le_refl _) _).drew⟩
        case measure => simp [intOf]; omega
      · obtain rfl : k = t0.size := by omega
        have hxk := HX.out
        rw [hxk] at hr hlen
        have hcv := fun c => hr.conv (n := s0.size) (c := c) (by omega)
        clear hr hlen
        go_wp2_with fail
        go_ret
        exact ⟨rfl, hbe⟩
  · go_enter Tryd.func27, Tryd.ntmps27
    go_wp2_with fail
    generalize Lib.bytesWorld w 5 t0 = W at *
    generalize grownCap w t0.size 0 5 = gc at *
    clear hcs
    have hS0 : s0.data.toList.length = s0.size := by simp
    have hL0 : t0.data.toList.length = t0.size := by simp
    go_loopw [18] (fun i wr => ∃ k : Nat, k ≤ s0.size ∧ i = .int .i64 k ∧ BRow wr w.heap.size (xorK t0.data.toList s0.data.toList k) ∧ Below w.heap.size w wr) (fun i _ => s0.size - (intOf i).toNat)
    case atStart => exact ⟨0, by omega, rfl, by rw [xorK_zero]; exact hrow, hb⟩
    case round =>
      obtain ⟨k, hk, rfl, hr, hbe⟩ := hrel
      have hlen := xorK_len t0.data.toList s0.data.toList k
      clear hrow hb
      by_cases hlk : k < s0.size
      · have hkL : k < t0.data.toList.length := by omega
        have hc := hr.1 k (by omega)
        have hf := hr.2 k (by omega)
        rw [xorK_get _ _ _ _ hkL, if_neg (by omega)] at hc
        have hset := hr.set_ k (by omega) (t0.data.toList.getD k 0 ^^^ s0.data.toList.getD k 0)
        rw [xorK_set, data_getD s0 k hlk] at hset
        generalize t0.data.toList.getD k 0 = x at *
        have hx := xor_u8 x s0[k]
        obtain ⟨y, hy, hye⟩ : ∃ y : UInt8, bits BinOp.xor IntKind.u8 (x.toNat : Int) (s0[k].toNat : Int) = (y.toNat : Int) ∧ y = x ^^^ s0[k] := ⟨_, hx, rfl⟩
        rw [← hye] at hset
        unfold bc at hc
        have HS := Lib.hid hset
        clear hset hr hx hye hlen
        go_wp2_with fail
        refine wp_region_nf (fun V => V.cell? ⟨w.heap.size, k, none⟩ = some (.int .u8 (x.toNat : Int))) (fun j => j == 9) [(0, true), (1, true), (2, true), (3, true), (4, true), (5, true), (6, true), (7, true), (8, true), (9, false)] (by kernel_rfl) rfl (by kernel_rfl) (by kernel_rfl) (fun d _ _ _ _ h => by cases d <;> exact h) ?_
        have hSS : wr.drew.cell? ⟨w.heap.size, k, none⟩ = some (.int .u8 (x.toNat : Int)) := hc
        repeat (refine nf_pure rfl hSS (fun w1 g1 => by go_wp2; exact ⟨rfl, rfl, rfl⟩) rfl ?_ ?_; rfl)
        refine nf_imp rfl ?_
        go_wp2_with fail
        refine ⟨fun h => (by cases h), ?_⟩
        refine nf_nil ?_
        go_wp2_with fail
        go_roundw
        case rel => exact ⟨k + 1, by omega, by go_num, HS.out.drew, (hbe.setCell (Nat.le_refl _) _).drew⟩
        case measure => simp [intOf]; omega
      · obtain rfl : k = s0.size := by omega
        have hxk := HX.out
        rw [hxk] at hr hlen
        have hcv := fun c => hr.conv (n := t0.size) (c := c) (by omega)
        clear hr hlen
        go_wp2_with fail
        go_ret
        exact ⟨rfl, hbe⟩

theorem xor_any (w : World) (s t : ByteArray) (hs : s.size ≤ 4294967295) (ht : t.size ≤ 4294967295) :
    Calls Tryd.prog 27 #[.string s, .string t] w fun e w' => e = .returned (.string ⟨(xorL s.data.toList t.data.toList).toArray⟩) ∧ Below w.heap.size w w' := by
  by_cases h : s.size < t.size
  · rw [xorL_comm]
    exact xor_core w t s ht (by omega) s t (.inr ⟨rfl, rfl, h⟩)
  · exact xor_core w s t hs (by omega) s t (.inl ⟨rfl, rfl⟩)
end Go.Proofs.YtaghdkiafgainaaDoor
