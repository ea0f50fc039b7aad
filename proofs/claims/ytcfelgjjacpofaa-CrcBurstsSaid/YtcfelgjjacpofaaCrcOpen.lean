import Derived.Test.YtcfelgjjacpofaaCrcSeal
import Derived.Test.YtcfelgjjacpofaaNF
namespace Go.Proofs.Ytcfelgjjacpofaa
open Go.RowKit Go.OpenShut

/-- the text is a sum's own behind its four last bytes -/
def openB (l : List UInt8) : Bool := decide (4 ≤ l.length) && decide (le32 (cmore 0 (l.take (l.length - 4))) = l.drop (l.length - 4))

theorem open_short (w : World) (s : ByteArray) (h : s.size < 4) :
    Calls Try.prog 15 #[.string s] w fun e w' => e = .returned (.tuple #[.string ⟨#[]⟩, .bool false]) ∧ Below w.heap.size w w' := by
  have hd : decide ((s.size : Int) - 4 < 0) = true := by simp; omega
  have h0 : (s.size : Int) - 4 < 0 := by omega
  go_enter Try.func15, Try.ntmps15
  go_wp2_with fail
  go_quiet (fail)
  go_wp2
  go_ret2
  exact ⟨rfl, below_drewN' (Below.refl _ _) _⟩

theorem openB_long (s : ByteArray) (n c : Nat) (hz : s.size = n + 4) (hc : cmore 0 (s.data.toList.take n) = c) : (le32 c == (s.extract n s.size).toList) = openB s.data.toList := by
  have hl : s.data.toList.length = n + 4 := by rw [← hz]; simp
  have h1 : (s.extract n s.size).toList = s.data.toList.drop n := by
    rw [Lib.extract_toList, List.take_of_length_le (by simp)]
  unfold openB
  rw [hl, show n + 4 - 4 = n by omega, hc, h1]
  rw [Bool.eq_iff_iff]
  simp

set_option maxHeartbeats 1000000 in
theorem open_long (w : World) (s : ByteArray) (n : Nat) (hz : s.size = n + 4) (hm : s.size ≤ maxLen) (b : Bool) (hb : openB s.data.toList = b) :
    Calls Try.prog 15 #[.string s] w fun e w' => e = .returned (.tuple #[.string (if b then s.extract 0 n else ⟨#[]⟩), .bool b]) ∧ Below w.heap.size w w' := by
  unfold maxLen at hm
  have hnm : n ≤ 9223372036854775807 := by omega
  have hsub : (s.size : Int) - 4 = (n : Int) := by omega
  have hn0 : ¬ (n : Int) < 0 := by omega
  have hns : (n : Int) ≤ (s.size : Int) := by omega
  have hns' : n ≤ s.size := by omega
  have HZ := Lib.hid hz
  have HB := Lib.hid hb
  clear hz hb
  have hdec : decide ((n : Int) < 0) = false := by simp
  go_enter Try.func15, Try.ntmps15
  go_wp2_with fail
  refine wp_region_nf (fun _ => True) (fun _ => false) [(0, true), (1, true), (2, true), (3, true), (4, true), (5, true), (9, true), (10, true), (11, true), (6, false), (7, false), (8, false), (12, true), (13, true)] (by kernel_rfl) rfl (by kernel_rfl) (by kernel_rfl) (fun d _ _ _ _ h => by cases d <;> exact h) ?_
  repeat (refine nf_pure rfl trivial (fun w1 _ => by go_wp2; exact ⟨rfl, rfl, rfl⟩) rfl ?_ ?_; rfl)
  refine nf_imp rfl ?_
  go_wp2_with fail
  refine (sum_any _ (s.extract 0 n) (by unfold maxLen; simp; omega)).mono ?_
  rintro e w1 ⟨rfl, hb1⟩
  go_wp2_with fail
  refine ⟨fun _ => trivial, ?_⟩
  refine nf_imp rfl ?_
  go_wp2_with fail
  have hcl := cmore_lt 0 (s.data.toList.take n)
  obtain ⟨c, hc⟩ : ∃ c, cmore 0 (s.data.toList.take n) = c := ⟨_, rfl⟩
  rw [hc] at hcl ⊢
  have HC := Lib.hid hc
  clear hc
  refine (bytes_any _ c hcl).mono ?_
  rintro e w2 ⟨rfl, rfl⟩
  go_wp2_with fail
  refine ⟨fun _ => trivial, ?_⟩
  have hcv := (Blk.new w1 5 (bcs (le32 c)).toArray).conv (c := 4) (le32_length _)
  have hbel : Below w.heap.size w (w1.alloc (.cells (bcs (le32 c)).toArray 5)) := (Below.drew (Below.refl _ _)).trans hb1 |>.alloc hb1.size _
  generalize w1.alloc (.cells (bcs (le32 c)).toArray 5) = w2 at *
  refine nf_imp rfl ?_
  go_wp2_with fail
  refine ⟨fun _ => trivial, ?_⟩
  clear hcv
  have hneq := openB_long s n c HZ.out HC.out
  rw [HB.out] at hneq
  have hneq' : (!(le32 c == (s.extract n s.size).toList)) = !b := by rw [hneq]
  clear hneq
  cases b
  · have hn2 : (!(le32 c == (s.extract n s.size).toList)) = true := hneq'
    clear hneq'
    repeat (refine nf_pure rfl trivial (fun w1 _ => by go_wp2; exact ⟨rfl, rfl, rfl⟩) rfl ?_ ?_; rfl)
    refine nf_nil ?_
    go_wp2_with fail
    go_ret2
    exact ⟨rfl, hbel⟩
  · have hn2 : (!(le32 c == (s.extract n s.size).toList)) = false := hneq'
    clear hneq'
    repeat (refine nf_pure rfl trivial (fun w1 _ => by go_wp2; exact ⟨rfl, rfl, rfl⟩) rfl ?_ ?_; rfl)
    refine nf_nil ?_
    go_wp2_with fail
    go_ret2
    exact ⟨rfl, hbel⟩
end Go.Proofs.Ytcfelgjjacpofaa
