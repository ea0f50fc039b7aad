import Derived.Test.YtcfelgjjacpofaaCrcLinear
namespace Go.Proofs.Ytcfelgjjacpofaa
open Go.RowKit Go.OpenShut

set_option maxHeartbeats 400000 in
theorem crcOne_no (s : ByteArray) (n a b : Int) (h : 2048 < s.size ∨ s.size = 0 ∨ b = 0) (w : World) :
    Calls Try.prog 5 #[.string s, .int .u16 a, .int .u8 b, .int .u32 n] w fun e w' => e = .returned (.bool true) ∧ Below w.heap.size w w' := by
  by_cases h1 : 2048 < s.size
  · clear h
    go_enter Try.func5, Try.ntmps5
    go_wp2_with fail
    refine (shown2_any _).mono ?_
    rintro e w1 ⟨rfl, hb1⟩
    go_wp2_with fail
    go_ret
    exact ⟨rfl, hb1⟩
  · by_cases h2 : s.size = 0
    · have h3 : ((s.size : Int) == 0) = true := by simp [h2]
      clear h
      have H2 := Lib.hid h2
      clear h2
      go_enter Try.func5, Try.ntmps5
      go_wp2_with fail
      refine (shown2_any _).mono ?_
      rintro e w1 ⟨rfl, hb1⟩
      go_wp2_with fail
      go_ret
      exact ⟨rfl, hb1⟩
    · obtain rfl : b = 0 := by omega
      have h3 : ((s.size : Int) == 0) = false := beq_eq_false_iff_ne.2 (by omega)
      clear h
      go_enter Try.func5, Try.ntmps5
      go_wp2_with fail
      refine (shown2_any _).mono ?_
      rintro e w1 ⟨rfl, hb1⟩
      go_wp2_with fail
      go_ret
      exact ⟨rfl, hb1⟩

theorem list_at (s : ByteArray) (i : Nat) (h : i < s.size) : s.data.toList = s.data.toList.take i ++ s[i] :: s.data.toList.drop (i + 1) := by
  have e := List.take_append_drop i s.data.toList
  rw [List.drop_eq_getElem_cons (by simpa using h)] at e
  exact e.symm
theorem list_changed (s : ByteArray) (i : Nat) (b : UInt8) (_h : i < s.size) : (s.extract 0 i ++ ByteArray.mk #[b] ++ s.extract (i + 1) s.size).data.toList = s.data.toList.take i ++ b :: s.data.toList.drop (i + 1) := by
  simp
  exact List.take_of_length_le (by simp)
theorem cmore_changed (s : ByteArray) (i : Nat) (b : UInt8) (h : i < s.size) (hne : s[i] ≠ b) (n : Nat) :
    ((cmore n s.data.toList : Int) != (cmore n (s.extract 0 i ++ ByteArray.mk #[b] ++ s.extract (i + 1) s.size).data.toList : Int)) = true := by
  have h2 := cmore_one (s.data.toList.take i) (s.data.toList.drop (i + 1)) s[i] b hne n
  rw [← list_at s i h, ← list_changed s i b h] at h2
  rw [bne_iff_ne]
  omega
theorem size_changed (s : ByteArray) (i : Nat) (b : UInt8) (h : i < s.size) : (s.extract 0 i ++ ByteArray.mk #[b] ++ s.extract (i + 1) s.size).size = s.size := by
  have l : ∀ t : ByteArray, t.data.toList.length = t.size := fun t => by simp
  rw [← l, list_changed s i b h]
  simp
  omega

set_option maxHeartbeats 1000000 in
theorem crcOne_yes (s : ByteArray) (n at_ : Nat) (by_ : UInt8) (h1 : s.size ≤ 2048) (h2 : 0 < s.size) (hby : 0 < by_.toNat) (hn : n < 4294967296) (ha : at_ < 65536) (w : World) :
    Calls Try.prog 5 #[.string s, .int .u16 at_, .int .u8 by_.toNat, .int .u32 n] w fun e w' => e = .returned (.bool true) ∧ Below w.heap.size w w' := by
  have h3 : ((s.size : Int) == 0) = false := beq_eq_false_iff_ne.2 (by omega)
  have h4 : ((by_.toNat : Int) == 0) = false := beq_eq_false_iff_ne.2 (by omega)
  obtain ⟨i, hi, hlt⟩ : ∃ i : Nat, (at_ : Int) % (s.size : Int) = (i : Int) ∧ i < s.size := ⟨at_ % s.size, by simp, Nat.mod_lt _ h2⟩
  obtain ⟨b, hx, hbb⟩ : ∃ b : UInt8, bits BinOp.xor IntKind.u8 (s[i].toNat : Int) (by_.toNat : Int) = (b.toNat : Int) ∧ s[i] ^^^ by_ = b := ⟨_, xor_u8 _ _, rfl⟩
  have HB := Lib.hid hbb
  clear hbb
  have hcv : ∀ w : World, (convert 30 9 (.slice (some ⟨w.heap.size, 0, none⟩) 1 1)).run Try.prog (w.alloc (.cells #[.int .u8 (b.toNat : Int)] 5)).drew = .ok (.string ⟨#[b]⟩) (w.alloc (.cells #[.int .u8 (b.toNat : Int)] 5)).drew := fun w =>
    conv_cells (l := [b]) (fun i hi => by
      have : i = 0 := by simpa using hi
      subst this
      exact cell_new _ _ _)
  go_enter Try.func5, Try.ntmps5
  go_wp2_with fail
  refine (shown2_any _).mono ?_
  rintro e w1 ⟨rfl, hb1⟩
  go_wp2_with fail
  have hcv1 := hcv w1
  clear hcv
  go_region
  go_wp2_with fail
  clear hcv1 hi
  have hne : s[i] ≠ b := by
    rw [← HB.out]
    intro h
    have h5 : by_ = 0 := by
      have h6 : s[i] ^^^ s[i] = s[i] ^^^ (s[i] ^^^ by_) := by rw [← h]
      rw [← UInt8.xor_assoc, UInt8.xor_self, UInt8.zero_xor] at h6
      exact h6.symm
    rw [h5] at hby
    simp at hby
  have H0 := cmore_changed s i b hlt hne 0
  have Hn := cmore_changed s i b hlt hne n
  have hz := size_changed s i b hlt
  have HZ := Lib.hid hz
  clear hz
  generalize s.extract 0 i ++ ByteArray.mk #[b] ++ s.extract (i + 1) s.size = t at *
  refine (sum_any _ s (by unfold maxLen; omega)).mono ?_
  rintro e w2 ⟨rfl, hb2⟩
  go_wp2_with fail
  have hbx := (hb1.alloc hb1.size (.cells #[.int .u8 (b.toNat : Int)] 5)).drew
  have hb2' := hbx.trans (hb2.mono hbx.size)
  clear hb1 hb2 hbx
  refine (sum_any _ _ (by rw [HZ.out]; unfold maxLen; omega)).mono ?_
  rintro e w3 ⟨rfl, hb3⟩
  go_wp2_with fail
  refine (more_any _ n hn s (by unfold maxLen; omega)).mono ?_
  rintro e w4 ⟨rfl, hb4⟩
  go_wp2_with fail
  refine (more_any _ n hn _ (by rw [HZ.out]; unfold maxLen; omega)).mono ?_
  rintro e w5 ⟨rfl, hb5⟩
  go_wp2_with fail
  go_ret
  exact ⟨rfl, hb2'.trans ((hb3.trans ((hb4.trans (hb5.mono hb4.size)).mono hb3.size)).mono hb2'.size)⟩

theorem crcOne_walk (s : ByteArray) (a b n : Int) (_hs : s.size ≤ maxLen) (ha : (Lit.int .u16 a).wf = true) (hb : (Lit.int .u8 b).wf = true) (hn : (Lit.int .u32 n).wf = true) (w : World) :
    Calls Try.prog 5 #[.string s, .int .u16 a, .int .u8 b, .int .u32 n] w fun e w' => e = .returned (.bool true) ∧ Below w.heap.size w w' := by
  have h1 := bounds_u16 ha
  have h2 := bounds_u8 hb
  have h3 := bounds_u32 hn
  by_cases h : 2048 < s.size ∨ s.size = 0 ∨ b = 0
  · exact crcOne_no s n a b h w
  · obtain ⟨a', rfl⟩ := Int.eq_ofNat_of_zero_le h1.1
    obtain ⟨b', rfl⟩ := Int.eq_ofNat_of_zero_le h2.1
    obtain ⟨n', rfl⟩ := Int.eq_ofNat_of_zero_le h3.1
    have e : (UInt8.ofNat b').toNat = b' := by simp; omega
    have h4 := crcOne_yes s n' a' (UInt8.ofNat b') (by omega) (by omega) (by omega) (by omega) (by omega) w
    rw [e] at h4
    exact h4
end Go.Proofs.Ytcfelgjjacpofaa
