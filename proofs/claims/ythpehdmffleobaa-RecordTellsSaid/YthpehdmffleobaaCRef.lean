/- crc, the document's: four, More, Sum, Seal, Open. -/
import Derived.Test.YthpehdmffleobaaCOpen
namespace Go.Proofs.Ythpehdmffleobaa
open Go.RowKit Go.OpenShut

theorem four_any (w : World) (n : Nat) (hn : n < 4294967296) :
    Calls Try.prog 52 #[.int .u32 n] w fun e w' => e = .returned (.string ⟨(le32 n).toArray⟩) ∧ Below w.heap.size w w' := by
  have hcv := conv_cells (w := w.alloc (.cells (bcs (le32 n)).toArray 5)) (b := w.heap.size) (off := 0) (cap := 4) (l := le32 n) (fun i hi => by
    rw [Nat.zero_add, (Blk.new w 5 (bcs (le32 n)).toArray).cell i]
    simpa using bcs_get hi)
  rw [le32_cells n hn, le32_length] at hcv
  go_enter Try.func52, Try.ntmps52
  go_wp2
  go_ret
  exact ⟨rfl, (Below.refl _ _).alloc (Nat.le_refl _) _⟩

theorem and1_u32 (x : Nat) (h : x < 4294967296) : bits BinOp.and IntKind.u32 (x : Int) 1 = ((x % 2 : Nat) : Int) := by
  have h1 := u32_and_nat x 1 h (by omega)
  rw [nat_mask1] at h1
  exact h1

set_option maxHeartbeats 1000000 in
theorem refMore_any (w : World) (n : Nat) (hn : n < 4294967296) (s : ByteArray) (hs : s.size ≤ maxLen) :
    Calls Try.prog 47 #[.int .u32 n, .string s] w fun e w' => e = .returned (.int .u32 (cmore n s.data.toList : Nat)) ∧ w = w' := by
  unfold maxLen at hs
  have hsg : IntKind.u32.signed = false := rfl
  obtain ⟨x, hx, hxn, hxl⟩ : ∃ x : Nat, bits BinOp.xor IntKind.u32 IntKind.u32.max (n : Int) = (x : Int) ∧ x = 4294967295 - n ∧ x < 4294967296 := ⟨_, u32_not n hn, rfl, by omega⟩
  have HX := Lib.hid hxn
  clear hxn
  go_enter Try.func47, Try.ntmps47
  go_wp2
  clear hx
  go_loop [5, 6] (fun v i => ∃ k : Nat, k ≤ s.size ∧ i = .int .i64 k ∧ v = .int .u32 (csum x (s.data.toList.take k) : Nat)) (fun _ i => s.size - (intOf i).toNat)
  case atStart => exact ⟨0, by omega, rfl, rfl⟩
  case round =>
    obtain ⟨k, hk, rfl, rfl⟩ := hrel
    have hyl := csum_lt (s.data.toList.take k) x hxl
    obtain ⟨y, hyy⟩ : ∃ y, csum x (s.data.toList.take k) = y := ⟨_, rfl⟩
    rw [hyy] at hyl ⊢
    have HY := Lib.hid hyy
    clear hyy
    by_cases hlt : k < s.size
    · obtain ⟨z, hz, hzz, hzl⟩ : ∃ z : Nat, bits BinOp.xor IntKind.u32 (y : Int) ((s[k].toNat : Int) % 4294967296) = (z : Int) ∧ z = y ^^^ s[k].toNat ∧ z < 4294967296 := by
        have hb := s[k].toNat_lt
        refine ⟨_, ?_, rfl, Nat.xor_lt_two_pow (n := 32) (by omega) (by omega)⟩
        rw [Int.emod_eq_of_lt (by omega) (by omega), u32_xor_nat _ _ hyl (by omega)]
      have HZ := Lib.hid hzz
      clear hzz
      go_wp2
      clear hz
      go_loop [5, 7] (fun v j => ∃ (m : Nat), m ≤ 8 ∧ j = .int .i64 m ∧ v = .int .u32 (cstn m z : Nat)) (fun _ j => 8 - (intOf j).toNat)
      case atStart => exact ⟨0, by omega, rfl, rfl⟩
      case round =>
        obtain ⟨m, hm, rfl, rfl⟩ := hrel
        have htl := cstn_lt m z hzl
        obtain ⟨t, htt⟩ : ∃ t, cstn m z = t := ⟨_, rfl⟩
        have HT := Lib.hid htt
        rw [htt] at htl ⊢
        clear htt
        by_cases hmlt : m < 8
        · have ha := and1_u32 t htl
          have h2 : t % 2 = 0 ∨ t % 2 = 1 := by omega
          rcases h2 with h2 | h2
          · have HC := Lib.hid (show cst t = t / 2 by unfold cst; rw [h2]; simp)
            rw [h2] at ha
            clear h2
            go_wp2
            go_round
            case rel => exact ⟨m + 1, by omega, by go_num, by show _ = Value.int .u32 ((cst (cstn m z) : Nat) : Int); rw [HT.out, HC.out]; congr 1⟩
            case measure => simp [intOf]; omega
          · have HC := Lib.hid (show cst t = t / 2 ^^^ 2197175160 by unfold cst; rw [h2])
            rw [h2] at ha
            clear h2
            go_wp2
            go_round
            case rel => 
              refine ⟨m + 1, by omega, by go_num, ?_⟩
              show _ = Value.int .u32 ((cst (cstn m z) : Nat) : Int)
              rw [HT.out, HC.out, ← u32_xor_nat _ _ (by omega) (by omega)]
              congr 1
            case measure => simp [intOf]; omega
        · obtain rfl : m = 8 := by omega
          go_wp2
          go_round
          case rel =>
            refine ⟨k + 1, by omega, by go_num, ?_⟩
            rw [take_snoc s k hlt, csum_snoc, HY.out, cbyte_eq, ← HZ.out, HT.out]
          case measure => simp [intOf]; omega
    · go_wp2
      go_ret
      refine ⟨?_, rfl⟩
      have h1 := u32_not y hyl
      have h2 := HY.out
      rw [List.take_of_length_le (by simp; omega), HX.out] at h2
      show Ending.returned (Value.int IntKind.u32 (bits BinOp.xor IntKind.u32 IntKind.u32.max ↑y)) = _
      rw [h1, ← h2]
      rfl
theorem refSum_any (w : World) (s : ByteArray) (hs : s.size ≤ maxLen) :
    Calls Try.prog 30 #[.string s] w fun e w' => e = .returned (.int .u32 (cmore 0 s.data.toList : Nat)) ∧ w = w' := by
  go_enter Try.func30, Try.ntmps30
  go_wp2_with fail
  refine (refMore_any _ 0 (by omega) s hs).mono ?_
  rintro e w1 ⟨rfl, rfl⟩
  go_wp2
  go_ret
  exact ⟨rfl, rfl⟩

theorem refSeal_no (w : World) (s : ByteArray) (size : Int) (h : size < 4 ∨ 4096 < size ∨ size - 4 < s.size) :
    Calls Try.prog 46 #[.string s, .int .i64 size] w fun e w' => e = .returned (.tuple #[.string ⟨#[]⟩, .bool false]) ∧ w = w' := by
  by_cases h1 : size < 4
  · clear h
    go_enter Try.func46, Try.ntmps46
    go_wp2
    go_ret2
    exact ⟨rfl, rfl⟩
  · by_cases h2 : 4096 < size
    · clear h
      go_enter Try.func46, Try.ntmps46
      go_wp2
      go_ret2
      exact ⟨rfl, rfl⟩
    · have h3 : size - 4 < s.size := by omega
      clear h
      go_enter Try.func46, Try.ntmps46
      go_wp2
      go_ret2
      exact ⟨rfl, rfl⟩

/-- l and j bytes 0 behind -/
def zerosL (l : List UInt8) (j : Nat) : List UInt8 := l ++ List.replicate j 0
def zerosS (s : ByteArray) (j : Nat) : ByteArray := ⟨(zerosL s.data.toList j).toArray⟩
theorem zerosS_size (s : ByteArray) (j : Nat) : (zerosS s j).size = s.size + j := by
  show Array.size _ = _
  simp [zerosL]
theorem zerosS_succ (s : ByteArray) (j : Nat) : zerosS s j ++ ⟨#[0]⟩ = zerosS s (j + 1) := by
  apply ByteArray.ext
  apply Array.toList_inj.1
  rw [ByteArray.data_append]
  simp [zerosS, zerosL, List.replicate_succ']
theorem zerosS_zero (s : ByteArray) : zerosS s 0 = s := by
  apply ByteArray.ext
  simp [zerosS, zerosL]

set_option maxHeartbeats 1000000 in
theorem refSeal_yes (w : World) (s : ByteArray) (size n : Nat) (hz : size = n + 4) (h1 : 4 ≤ size) (h3 : size ≤ 4096) (h2 : s.size ≤ n) :
    Calls Try.prog 46 #[.string s, .int .i64 size] w fun e w' => e = .returned (.tuple #[.string ⟨(sealL s.data.toList n).toArray⟩, .bool true]) ∧ Below w.heap.size w w' := by
  have hsub : (size : Int) - 4 = (n : Int) := by omega
  have h2' : (s.size : Int) ≤ (n : Int) := by omega
  have HZ := Lib.hid hz
  clear hz
  go_enter Try.func46, Try.ntmps46
  go_wp2_with fail
  go_loop [6] (fun v => ∃ j : Nat, j ≤ n - s.size ∧ v = .string (zerosS s j)) (fun v => n - (match v with | .string t => t.size | _ => 0))
  case atStart => exact ⟨0, by omega, by rw [zerosS_zero]⟩
  case round =>
    obtain ⟨j, hj, rfl⟩ := hrel
    have hzs := zerosS_size s j
    obtain ⟨t, ht⟩ : ∃ t, zerosS s j = t := ⟨_, rfl⟩
    rw [ht] at hzs ⊢
    have HT := Lib.hid ht
    have HS := Lib.hid hzs
    by_cases hlt : j < n - s.size
    · have htn : t.size < n := by omega
      clear ht hzs
      go_wp2
      go_round
      case rel => exact ⟨j + 1, by omega, by rw [← zerosS_succ, HT.out]⟩
      case measure =>
        have := HS.out
        have h1 : (ByteArray.mk #[0]).size = 1 := rfl
        simp only [ByteArray.size_append, h1]
        omega
    · have htn : n ≤ t.size := by omega
      clear ht hzs
      go_wp2_with fail
      have hp : t.data.toList = padL s.data.toList n := by
        rw [← HT.out]
        have e : j = n - s.data.toList.length := by simp; omega
        rw [e]
        rfl
      have HP := Lib.hid hp
      clear hp
      refine (refSum_any _ t (by have := HS.out; unfold maxLen; omega)).mono ?_
      rintro e w1 ⟨rfl, rfl⟩
      go_wp2_with fail
      refine (four_any _ _ (cmore_lt _ _)).mono ?_
      rintro e w2 ⟨rfl, hb2⟩
      have hcat : ¬ 9223372036854775807 < t.size + (le32 (cmore 0 t.data.toList)).length := by
        have := HS.out
        rw [le32_length]
        omega
      go_wp2_with fail
      go_ret2
      refine ⟨?_, hb2⟩
      show Ending.returned (.tuple #[.string (t ++ ⟨(le32 (cmore 0 t.data.toList)).toArray⟩), .bool true]) = _
      congr 5
      apply ByteArray.ext
      apply Array.toList_inj.1
      rw [ByteArray.data_append, Array.toList_append, HP.out]
      rfl

theorem refOpen_short (w : World) (s : ByteArray) (h : s.size < 4) :
    Calls Try.prog 34 #[.string s] w fun e w' => e = .returned (.tuple #[.string ⟨#[]⟩, .bool false]) ∧ Below w.heap.size w w' := by
  go_enter Try.func34, Try.ntmps34
  go_wp2
  go_ret2
  exact ⟨rfl, Below.refl _ _⟩

theorem openB_long' (s : ByteArray) (n c : Nat) (hz : s.size = n + 4) (hc : cmore 0 (s.data.toList.take n) = c) : ((s.extract n s.size).toList == le32 c) = openB s.data.toList := by
  rw [← openB_long s n c hz hc, Bool.eq_iff_iff]
  simp only [beq_iff_eq]
  exact eq_comm

set_option maxHeartbeats 1000000 in
theorem refOpen_long (w : World) (s : ByteArray) (n : Nat) (hz : s.size = n + 4) (hm : s.size ≤ maxLen) (b : Bool) (hb : openB s.data.toList = b) :
    Calls Try.prog 34 #[.string s] w fun e w' => e = .returned (.tuple #[.string (if b then s.extract 0 n else ⟨#[]⟩), .bool b]) ∧ Below w.heap.size w w' := by
  unfold maxLen at hm
  have hnm : n ≤ 9223372036854775807 := by omega
  have hsub : (s.size : Int) - 4 = (n : Int) := by omega
  have h4 : ¬ (s.size : Int) < 4 := by omega
  have hns : (n : Int) ≤ (s.size : Int) := by omega
  have hns' : n ≤ s.size := by omega
  have HZ := Lib.hid hz
  have HB := Lib.hid hb
  clear hz hb
  go_enter Try.func34, Try.ntmps34
  go_wp2_with fail
  refine wp_region_nf (fun _ => True) (fun _ => false) [(0, true), (1, true), (2, true), (3, true), (4, true), (5, true), (6, false), (7, false), (8, true)] (by kernel_rfl) rfl (by kernel_rfl) (by kernel_rfl) (fun d _ _ _ _ h => by cases d <;> exact h) ?_
  repeat (refine nf_pure rfl trivial (fun w1 _ => by go_wp2; exact ⟨rfl, rfl, rfl⟩) rfl ?_ ?_; rfl)
  refine nf_imp rfl ?_
  go_wp2_with fail
  refine (refSum_any _ (s.extract 0 n) (by unfold maxLen; simp; omega)).mono ?_
  rintro e w1 ⟨rfl, rfl⟩
  go_wp2_with fail
  refine ⟨fun _ => trivial, ?_⟩
  refine nf_imp rfl ?_
  go_wp2_with fail
  have hcl := cmore_lt 0 (s.data.toList.take n)
  obtain ⟨c, hc⟩ : ∃ c, cmore 0 (s.data.toList.take n) = c := ⟨_, rfl⟩
  rw [hc] at hcl ⊢
  have HC := Lib.hid hc
  clear hc
  refine (four_any _ c hcl).mono ?_
  rintro e w2 ⟨rfl, hb2⟩
  go_wp2_with fail
  refine ⟨fun _ => trivial, ?_⟩
  have hbel : Below w.heap.size w w2 := (Below.drew (Below.refl _ _)).trans hb2
  have hneq := openB_long' s n c HZ.out HC.out
  rw [HB.out] at hneq
  have hneq' : (!((s.extract n s.size).toList == le32 c)) = !b := by rw [hneq]
  clear hneq
  cases b
  · have hn2 : (!((s.extract n s.size).toList == le32 c)) = true := hneq'
    clear hneq'
    repeat (refine nf_pure rfl trivial (fun w1 _ => by go_wp2; exact ⟨rfl, rfl, rfl⟩) rfl ?_ ?_; rfl)
    refine nf_nil ?_
    go_wp2_with fail
    go_ret2
    exact ⟨rfl, hbel⟩
  · have hn2 : (!((s.extract n s.size).toList == le32 c)) = false := hneq'
    clear hneq'
    repeat (refine nf_pure rfl trivial (fun w1 _ => by go_wp2; exact ⟨rfl, rfl, rfl⟩) rfl ?_ ?_; rfl)
    refine nf_nil ?_
    go_wp2_with fail
    go_ret2
    exact ⟨rfl, hbel⟩
theorem refSeal_any (w : World) (s : ByteArray) (size : Int) :
    Calls Try.prog 46 #[.string s, .int .i64 size] w fun e w' => e = .returned (.tuple #[.string (sealS s size), .bool (sealB s size)]) ∧ Below w.heap.size w w' := by
  by_cases h : size < 4 ∨ 4096 < size ∨ size - 4 < s.size
  · unfold sealS
    rw [sealB_no h]
    exact (refSeal_no w s size h).mono fun e w' ⟨he, hw⟩ => ⟨he, by subst hw; exact Below.refl _ _⟩
  · unfold sealS
    rw [sealB_yes h]
    obtain ⟨z, rfl⟩ := Int.eq_ofNat_of_zero_le (show 0 ≤ size by omega)
    rw [Int.toNat_natCast]
    exact refSeal_yes w s z (z - 4) (by omega) (by omega) (by omega) (by omega)
theorem refOpen_any (w : World) (s : ByteArray) (hm : s.size ≤ maxLen) :
    Calls Try.prog 34 #[.string s] w fun e w' => e = .returned (.tuple #[.string (openS s), .bool (openB s.data.toList)]) ∧ Below w.heap.size w w' := by
  by_cases h : s.size < 4
  · unfold openS
    rw [openB_short h]
    exact refOpen_short w s h
  · exact refOpen_long w s (s.size - 4) (by omega) hm _ rfl

end Go.Proofs.Ythpehdmffleobaa
