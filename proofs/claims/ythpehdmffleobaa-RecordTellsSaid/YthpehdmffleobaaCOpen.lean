/- crc: Open, and Seal and Open for all inputs. -/
import Derived.Test.YthpehdmffleobaaCSeal
import Derived.Test.YthpehdmffleobaaNF
namespace Go.Proofs.Ythpehdmffleobaa
open Go.RowKit Go.OpenShut

/-- the text is a sum's own behind its four last bytes -/
def openB (l : List UInt8) : Bool := decide (4 ≤ l.length) && decide (le32 (cmore 0 (l.take (l.length - 4))) = l.drop (l.length - 4))

theorem open_short (w : World) (s : ByteArray) (h : s.size < 4) :
    Calls Try.prog 31 #[.string s] w fun e w' => e = .returned (.tuple #[.string ⟨#[]⟩, .bool false]) ∧ Below w.heap.size w w' := by
  have hd : decide ((s.size : Int) - 4 < 0) = true := by simp; omega
  have h0 : (s.size : Int) - 4 < 0 := by omega
  go_enter Try.func31, Try.ntmps31
  go_wp2_with fail
  go_quiet (fail)
  go_wp2
  go_ret2
  exact ⟨rfl, below_drewN' (Below.refl _ _) _⟩

theorem openB_long (s : ByteArray) (n c : Nat) (hz : s.size = n + 4) (hc : cmore 0 (s.data.toList.take n) = c) : (le32 c == (s.extract n s.size).toList) = openB s.data.toList := by
  have hl : s.data.toList.length = n + 4 := by rw [← hz]; simp
  have h1 : (s.extract n s.size).toList = s.data.toList.drop n := by
    rw [Lib.extract_toList, List.take_of_length_le (by simp)]
  unfold openB
  rw [hl, show n + 4 - 4 = n by omega, hc, h1]
  rw [Bool.eq_iff_iff]
  simp

set_option maxHeartbeats 1000000 in
theorem open_long (w : World) (s : ByteArray) (n : Nat) (hz : s.size = n + 4) (hm : s.size ≤ maxLen) (b : Bool) (hb : openB s.data.toList = b) :
    Calls Try.prog 31 #[.string s] w fun e w' => e = .returned (.tuple #[.string (if b then s.extract 0 n else ⟨#[]⟩), .bool b]) ∧ Below w.heap.size w w' := by
  unfold maxLen at hm
  have hnm : n ≤ 9223372036854775807 := by omega
  have hsub : (s.size : Int) - 4 = (n : Int) := by omega
  have hn0 : ¬ (n : Int) < 0 := by omega
  have hns : (n : Int) ≤ (s.size : Int) := by omega
  have hns' : n ≤ s.size := by omega
  have HZ := Lib.hid hz
  have HB := Lib.hid hb
  clear hz hb
  have hdec : decide ((n : Int) < 0) = false := by simp
  go_enter Try.func31, Try.ntmps31
  go_wp2_with fail
  refine wp_region_nf (fun _ => True) (fun _ => false) [(0, true), (1, true), (2, true), (3, true), (4, true), (5, true), (9, true), (10, true), (11, true), (6, false), (7, false), (8, false), (12, true), (13, true)] (by kernel_rfl) rfl (by kernel_rfl) (by kernel_rfl) (fun d _ _ _ _ h => by cases d <;> exact h) ?_
  repeat (refine nf_pure rfl trivial (fun w1 _ => by go_wp2; exact ⟨rfl, rfl, rfl⟩) rfl ?_ ?_; rfl)
  refine nf_imp rfl ?_
  go_wp2_with fail
  refine (sum_any _ (s.extract 0 n) (by unfold maxLen; simp; omega)).mono ?_
  rintro e w1 ⟨rfl, hb1⟩
  go_wp2_with fail
  refine ⟨fun _ => trivial, ?_⟩
  refine nf_imp rfl ?_
  go_wp2_with fail
  have hcl := cmore_lt 0 (s.data.toList.take n)
  obtain ⟨c, hc⟩ : ∃ c, cmore 0 (s.data.toList.take n) = c := ⟨_, rfl⟩
  rw [hc] at hcl ⊢
  have HC := Lib.hid hc
  clear hc
  refine (bytes_any _ c hcl).mono ?_
  rintro e w2 ⟨rfl, rfl⟩
  go_wp2_with fail
  refine ⟨fun _ => trivial, ?_⟩
  have hcv := (Blk.new w1 5 (bcs (le32 c)).toArray).conv (c := 4) (le32_length _)
  have hbel : Below w.heap.size w (w1.alloc (.cells (bcs (le32 c)).toArray 5)) := (Below.drew (Below.refl _ _)).trans hb1 |>.alloc hb1.size _
  generalize w1.alloc (.cells (bcs (le32 c)).toArray 5) = w2 at *
  refine nf_imp rfl ?_
  go_wp2_with fail
  refine ⟨fun _ => trivial, ?_⟩
  clear hcv
  have hneq := openB_long s n c HZ.out HC.out
  rw [HB.out] at hneq
  have hneq' : (!(le32 c == (s.extract n s.size).toList)) = !b := by rw [hneq]
  clear hneq
  cases b
  · have hn2 : (!(le32 c == (s.extract n s.size).toList)) = true := hneq'
    clear hneq'
    repeat (refine nf_pure rfl trivial (fun w1 _ => by go_wp2; exact ⟨rfl, rfl, rfl⟩) rfl ?_ ?_; rfl)
    refine nf_nil ?_
    go_wp2_with fail
    go_ret2
    exact ⟨rfl, hbel⟩
  · have hn2 : (!(le32 c == (s.extract n s.size).toList)) = false := hneq'
    clear hneq'
    repeat (refine nf_pure rfl trivial (fun w1 _ => by go_wp2; exact ⟨rfl, rfl, rfl⟩) rfl ?_ ?_; rfl)
    refine nf_nil ?_
    go_wp2_with fail
    go_ret2
    exact ⟨rfl, hbel⟩

/-- what is sealed, as one answer -/
def sealB (s : ByteArray) (size : Int) : Bool := decide (4 ≤ size ∧ size ≤ 4096 ∧ (s.size : Int) ≤ size - 4)
def sealS (s : ByteArray) (size : Int) : ByteArray := if sealB s size then ⟨(sealL s.data.toList (size.toNat - 4)).toArray⟩ else ⟨#[]⟩
def openS (s : ByteArray) : ByteArray := if openB s.data.toList then s.extract 0 (s.size - 4) else ⟨#[]⟩

theorem sealB_no {s : ByteArray} {size : Int} (h : size < 4 ∨ 4096 < size ∨ size - 4 < s.size) : sealB s size = false := by
  unfold sealB
  apply decide_eq_false
  omega
theorem sealB_yes {s : ByteArray} {size : Int} (h : ¬ (size < 4 ∨ 4096 < size ∨ size - 4 < s.size)) : sealB s size = true := by
  unfold sealB
  apply decide_eq_true
  omega

theorem seal_any (w : World) (s : ByteArray) (size : Int) :
    Calls Try.prog 41 #[.string s, .int .i64 size] w fun e w' => e = .returned (.tuple #[.string (sealS s size), .bool (sealB s size)]) ∧ Below w.heap.size w w' := by
  by_cases h : size < 4 ∨ 4096 < size ∨ size - 4 < s.size
  · unfold sealS
    rw [sealB_no h]
    exact (seal_no w s size h).mono fun e w' ⟨he, hw⟩ => ⟨he, by subst hw; exact Below.refl _ _⟩
  · unfold sealS
    rw [sealB_yes h]
    obtain ⟨z, rfl⟩ := Int.eq_ofNat_of_zero_le (show 0 ≤ size by omega)
    rw [Int.toNat_natCast]
    exact seal_yes w s z (z - 4) (by omega) (by omega) (by omega) (by omega)
theorem openB_short {s : ByteArray} (h : s.size < 4) : openB s.data.toList = false := by
  unfold openB
  rw [decide_eq_false (show ¬ 4 ≤ s.data.toList.length by simp; omega)]
  rfl
theorem open_any (w : World) (s : ByteArray) (hm : s.size ≤ maxLen) :
    Calls Try.prog 31 #[.string s] w fun e w' => e = .returned (.tuple #[.string (openS s), .bool (openB s.data.toList)]) ∧ Below w.heap.size w w' := by
  by_cases h : s.size < 4
  · unfold openS
    rw [openB_short h]
    exact open_short w s h
  · exact open_long w s (s.size - 4) (by omega) hm _ rfl

theorem openB_seal (l : List UInt8) (m : Nat) (h : l.length ≤ m) : openB (sealL l m) = true := by
  have hl := sealL_length l m h
  have hp := padL_length l m h
  unfold openB
  rw [hl, show m + 4 - 4 = m by omega]
  have h1 : (sealL l m).take m = padL l m := by
    unfold sealL
    rw [List.take_append_of_le_length (by omega), List.take_of_length_le (by omega)]
  have h2 : (sealL l m).drop m = le32 (cmore 0 (padL l m)) := by
    unfold sealL
    rw [List.drop_append_of_le_length (by omega), List.drop_of_length_le (by omega), List.nil_append]
  rw [h1, h2]
  simp
theorem openS_seal (l : List UInt8) (m : Nat) (h : l.length ≤ m) : openS ⟨(sealL l m).toArray⟩ = ⟨(padL l m).toArray⟩ := by
  have hl := sealL_length l m h
  have hp := padL_length l m h
  unfold openS
  rw [show (ByteArray.mk (sealL l m).toArray).data.toList = sealL l m from rfl, openB_seal l m h]
  simp only [if_true]
  apply ByteArray.ext
  apply Array.toList_inj.1
  rw [extract_list]
  show (sealL l m).take (Array.size _ - 4) = padL l m
  rw [List.size_toArray, hl, show m + 4 - 4 = m by omega]
  unfold sealL
  rw [List.take_append_of_le_length (by omega), List.take_of_length_le (by omega)]

theorem list_at (s : ByteArray) (i : Nat) (h : i < s.size) : s.data.toList = s.data.toList.take i ++ s[i] :: s.data.toList.drop (i + 1) := by
  have e := List.take_append_drop i s.data.toList
  rw [List.drop_eq_getElem_cons (by simpa using h)] at e
  exact e.symm
theorem list_changed (s : ByteArray) (i : Nat) (b : UInt8) (_h : i < s.size) : (s.extract 0 i ++ ByteArray.mk #[b] ++ s.extract (i + 1) s.size).data.toList = s.data.toList.take i ++ b :: s.data.toList.drop (i + 1) := by
  simp
  exact List.take_of_length_le (by simp)
theorem cmore_changed (s : ByteArray) (i : Nat) (b : UInt8) (h : i < s.size) (hne : s[i] ≠ b) (n : Nat) :
    ((cmore n s.data.toList : Int) != (cmore n (s.extract 0 i ++ ByteArray.mk #[b] ++ s.extract (i + 1) s.size).data.toList : Int)) = true := by
  have h2 := cmore_one (s.data.toList.take i) (s.data.toList.drop (i + 1)) s[i] b hne n
  rw [← list_at s i h, ← list_changed s i b h] at h2
  rw [bne_iff_ne]
  omega
theorem size_changed (s : ByteArray) (i : Nat) (b : UInt8) (h : i < s.size) : (s.extract 0 i ++ ByteArray.mk #[b] ++ s.extract (i + 1) s.size).size = s.size := by
  have l : ∀ t : ByteArray, t.data.toList.length = t.size := fun t => by simp
  rw [← l, list_changed s i b h]
  simp
  omega

end Go.Proofs.Ythpehdmffleobaa
