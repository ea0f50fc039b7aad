import Derived.Test.YthpehdmffleobaaB0
import Derived.Test.YthpehdmffleobaaCrcPlain
namespace Go.Proofs.Ythpehdmffleobaa
open Go.RowKit

theorem cst_bits (y : Nat) (hy : y < 4294967296) : bits BinOp.xor IntKind.u32 ((y : Int) / 2) (2197175160 * bits BinOp.and IntKind.u32 (y : Int) 1 % 4294967296) = ((cst y : Nat) : Int) := by
  have h1 := u32_and_nat y 1 hy (by omega)
  rw [show ((1 : Nat) : Int) = 1 from rfl] at h1
  rw [h1, nat_mask1]
  rw [show ((y : Int) / 2) = ((y / 2 : Nat) : Int) by omega, show (2197175160 * ((y % 2 : Nat) : Int) % 4294967296) = ((2197175160 * (y % 2) : Nat) : Int) by omega]
  rw [u32_xor_nat _ _ (by omega) (by omega)]
  rfl

def TT (k : Nat) : Array Value := ((List.range 16).map fun i => Value.int .u32 (if i < k then (cstn 4 i : Nat) else 0 : Nat)).toArray
theorem TT_get (k i : Nat) (h : i < 16) : (TT k)[i]? = some (Value.int .u32 (if i < k then (cstn 4 i : Nat) else 0 : Nat)) := by
  simp [TT, h]
theorem TT_set (k : Nat) : (TT k).setIfInBounds k (.int .u32 (cstn 4 k : Nat)) = TT (k + 1) := by
  apply Array.ext (by simp [TT])
  intro i h1 h2
  simp [TT] at h1 
  simp only [TT]
  simp
  by_cases e : k = i
  · subst e; simp
  · have : (i < k + 1) ↔ i < k := by omega
    simp [e, this]
set_option maxHeartbeats 400000 in
theorem table_any (w : World) :
    Calls Try.prog 56 #[] w fun e w' => e = .returned (.agg (TT 16)) ∧ Below w.heap.size w w' := by
  go_enter Try.func56, Try.ntmps56
  go_wp2
  go_loopw [4] (fun i wr => ∃ k : Nat, k ≤ 16 ∧ i = .int .i64 k ∧ wr = (w.alloc (.cells (TT 0) 99)).alloc (.cells (TT k) 99)) (fun i _ => 16 - (intOf i).toNat)
  case atStart => exact ⟨0, by omega, rfl, rfl⟩
  case round => 
    obtain ⟨k, hk, rfl, rfl⟩ := hrel
    by_cases hlt : k < 16
    · have h1 := TT_get k k hlt
      rw [if_neg (by omega)] at h1
      go_wp2
      go_loopw [3, 9] (fun x j wr => ∃ (m y : Nat), m ≤ 4 ∧ y < 4294967296 ∧ y = cstn m k ∧ j = .int .i64 m ∧ x = .int .u32 y ∧ wr = (w.alloc (.cells (TT 0) 99)).alloc (.cells (TT k) 99)) (fun _ j _ => 4 - (intOf j).toNat)
      case atStart => exact ⟨0, k, by omega, by omega, rfl, rfl, rfl, rfl⟩
      case round =>
        obtain ⟨m, y, hm, hy, hyy, rfl, rfl, rfl⟩ := hrel
        have H := Lib.hid hyy
        clear hyy
        by_cases hmlt : m < 4
        · go_wp2
          go_roundw
          case rel => exact ⟨m + 1, cst y, by omega, cst_lt _ hy, by rw [H.out]; rfl, by go_num, by rw [cst_bits y hy], trivial⟩
          case measure => simp [intOf]; omega
        · obtain rfl : m = 4 := by omega
          go_wp2
          go_roundw
          case rel => exact ⟨k + 1, by omega, by go_num, by rw [H.out, TT_set]⟩
          case measure => simp [intOf]; omega
    · obtain rfl : k = 16 := by omega
      go_wp2_with (first | (refine wpList_load_row rfl 99 _ rfl _ rfl 99 (TT 16) (0,0) _ (heap_alloc2_new _ _ _) Try.underlying99 rfl (by kernel_rfl) ?_) | (refine wpList_store_row rfl 99 _ _ rfl _ (TT 16) rfl rfl 99 (TT 0) (heap_alloc2_old _ _ _) (by kernel_rfl) rfl (by kernel_rfl) ?_))
      refine bodyPost_ret (v := .agg (TT 16)) (results_cell_row rfl _ _ w.heap.size 99 (TT 16) (0,0) _ rfl (setRow_heap _ _ _ _ _ _ (heap_alloc2_old _ _ _)) Try.underlying99 rfl (by kernel_rfl)) rfl ⟨rfl, ?_⟩
      exact (((Below.refl _ _).alloc (Nat.le_refl _) _).alloc (by simp) _)|> fun h => below_setRow h (Nat.le_refl _) _
theorem half_any (w : World) (X A : Nat) (y : Nat) (hy : y < 4294967296) (hx : Blk w X 43 #[.int .u32 y]) (ha : Blk w A 99 (TT 16)) (_hne : X ≠ A) :
    Calls Try.prog 57 #[.pointer (some ⟨X, 0, none⟩), .pointer (some ⟨A, 0, none⟩)] w fun e w' => e = .returned (.tuple #[]) ∧ w' = (w.setCell ⟨X, 0, none⟩ (.int .u32 (chalf y : Nat))).drew := by
  have hx0 := hx.cell 0
  have hf0 := hx.frozen 0
  have hz := hx.lt
  obtain ⟨q, hq, hb, hq16⟩ : ∃ q : Nat, q < 16 ∧ bits .and .u32 (y : Int) 15 = (q : Int) ∧ y % 16 = q := by
    refine ⟨y % 16, by omega, ?_, rfl⟩
    have h1 := u32_and_nat y 15 hy (by omega)
    rw [nat_mask4] at h1
    exact h1
  have HQ := Lib.hid hq16
  clear hq16
  have h1 := TT_get 16 q (by omega)
  rw [if_pos (by omega)] at h1
  have ha0 := ha.cell q
  rw [h1] at ha0
  have hcl := cstn_lt 4 q (by omega)
  go_enter Try.func57, Try.ntmps57
  go_wp2
  go_region
  go_end0
  refine ⟨rfl, ?_⟩
  rw [show ((y : Int) / 16) = ((y / 16 : Nat) : Int) by omega, u32_xor_nat _ _ (by omega) hcl, ← HQ.out]
  rfl

theorem take_snoc (s : ByteArray) (k : Nat) (h : k < s.size) : s.data.toList.take (k + 1) = s.data.toList.take k ++ [s[k]] := by
  rw [List.take_succ_eq_append_getElem (by simpa using h)]; rfl

theorem u32_not (n : Nat) (hn : n < 4294967296) : bits BinOp.xor IntKind.u32 IntKind.u32.max (n : Int) = ((4294967295 - n : Nat) : Int) := by
  have h1 : IntKind.u32.max = ((4294967295 : Nat) : Int) := by decide
  rw [h1, u32_xor_nat _ _ (by omega) hn, x_not n hn]

set_option maxHeartbeats 1000000 in
theorem more_any (w : World) (n : Nat) (hn : n < 4294967296) (s : ByteArray) (hs : s.size ≤ maxLen) :
    Calls Try.prog 43 #[.int .u32 n, .string s] w fun e w' => e = .returned (.int .u32 (cmore n s.data.toList : Nat)) ∧ Below w.heap.size w w' := by
  unfold maxLen at hs
  have hsg : IntKind.u32.signed = false := rfl
  obtain ⟨x, hx, hxn, hxl⟩ : ∃ x : Nat, bits BinOp.xor IntKind.u32 IntKind.u32.max (n : Int) = (x : Int) ∧ x = 4294967295 - n ∧ x < 4294967296 := ⟨_, u32_not n hn, rfl, by omega⟩
  have HX := Lib.hid hxn
  clear hxn
  go_enter Try.func43, Try.ntmps43
  go_wp2_with fail
  refine (table_any _).mono ?_
  rintro e w1 ⟨rfl, hb1⟩
  go_wp2_with (refine wpList_store_row rfl 99 _ _ rfl _ (TT 16) rfl rfl 99 (TT 0) (heap_alloc_new _ _) (by kernel_rfl) rfl (by kernel_rfl) ?_)
  clear hx hsg
  go_loopw [15] (fun i wr => ∃ k : Nat, k ≤ s.size ∧ i = .int .i64 k ∧ Blk wr (w1.heap.size + 1) 43 #[.int .u32 (csum x (s.data.toList.take k) : Nat)] ∧ Blk wr w1.heap.size 99 (TT 16) ∧ Below w1.heap.size w1 wr) (fun i _ => s.size - (intOf i).toNat)
  case atStart =>
    have hz : ∀ (a : Array Value) (o : Array Value), ((w1.alloc (.cells o 99)).setRow w1.heap.size a).heap.size = w1.heap.size + 1 := fun a o => by simp
    refine ⟨0, by omega, rfl, ?_, ?_, ?_⟩
    · have h := Blk.new ((w1.alloc (.cells (TT 0) 99)).setRow w1.heap.size (TT 16)) 43 #[.int .u32 (x : Int)]
      rw [hz] at h
      exact h
    · exact ((Blk.new w1 99 (TT 0)).row_ (TT 16)).alloc _
    · exact (below_setRow ((Below.refl _ _).alloc (Nat.le_refl _) _) (Nat.le_refl _) _).alloc (by rw [hz]; omega) _
  case round =>
    obtain ⟨k, hk, rfl, hX, hA, hb⟩ := hrel
    have hyl := csum_lt (s.data.toList.take k) x hxl
    obtain ⟨y, hyy⟩ : ∃ y, csum x (s.data.toList.take k) = y := ⟨_, rfl⟩
    rw [hyy] at hX hyl
    have HY := Lib.hid hyy
    clear hyy
    have hX0 := hX.cell 0
    have hXf := hX.frozen 0
    by_cases hlt : k < s.size
    · obtain ⟨z, hz, hzz, hzl⟩ : ∃ z : Nat, bits BinOp.xor IntKind.u32 (y : Int) ((s[k].toNat : Int) % 4294967296) = (z : Int) ∧ z = y ^^^ s[k].toNat ∧ z < 4294967296 := by
        have hb := s[k].toNat_lt
        refine ⟨_, ?_, rfl, Nat.xor_lt_two_pow (n := 32) (by omega) (by omega)⟩
        rw [Int.emod_eq_of_lt (by omega) (by omega), u32_xor_nat _ _ hyl (by omega)]
      have HZ := Lib.hid hzz
      clear hzz
      go_wp2
      go_region
      clear hz
      have hX1 := (hX.set_ 0 (.int .u32 z)).drew
      have hA1 := (hA.far (p := ⟨w1.heap.size + 1, 0, none⟩) (by simp) (.int .u32 z)).drew
      go_wp2_with fail
      refine (half_any _ _ _ z hzl hX1 hA1 (by omega)).mono ?_
      rintro e w2 ⟨rfl, rfl⟩
      have hX2 := (hX1.set_ 0 (.int .u32 (chalf z : Nat))).drew
      have hA2 := (hA1.far (p := ⟨w1.heap.size + 1, 0, none⟩) (by simp) (.int .u32 (chalf z : Nat))).drew
      go_wp2_with fail
      refine (half_any _ _ _ (chalf z) (chalf_lt _ hzl) hX2 hA2 (by omega)).mono ?_
      rintro e w2 ⟨rfl, rfl⟩
      go_wp2_with fail
      go_roundw
      case rel => 
        have hX3 := (hX2.set_ 0 (.int .u32 (chalf (chalf z) : Nat))).drew
        have hA3 := (hA2.far (p := ⟨w1.heap.size + 1, 0, none⟩) (by simp) (.int .u32 (chalf (chalf z) : Nat))).drew
        refine ⟨k + 1, by omega, by go_num, ?_, hA3, ?_⟩
        · rw [take_snoc s k hlt, csum_snoc, HY.out]
          unfold cbyte
          rw [← HZ.out]
          exact hX3
        · exact (((((hb.setCell (by simp) _).drew).setCell (by simp) _).drew).setCell (by simp) _).drew
      case measure => simp [intOf]; omega
    · go_wp2
      go_ret
      refine ⟨?_, hb1.trans (hb.mono hb1.size)⟩
      have hk' : k = s.size := by omega
      have h1 := u32_not y hyl
      have h2 := HY.out
      rw [List.take_of_length_le (by simp; omega), HX.out] at h2
      show Ending.returned (Value.int IntKind.u32 (bits BinOp.xor IntKind.u32 IntKind.u32.max ↑y)) = _
      rw [h1, ← h2]
      rfl
end Go.Proofs.Ythpehdmffleobaa
