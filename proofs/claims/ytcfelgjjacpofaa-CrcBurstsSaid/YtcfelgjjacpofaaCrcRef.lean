import Derived.Test.YtcfelgjjacpofaaCrcOpen
namespace Go.Proofs.Ytcfelgjjacpofaa
open Go.RowKit Go.OpenShut

theorem refSeal_no (w : World) (s : ByteArray) (size : Int) (h : size < 4 ∨ 4096 < size ∨ size - 4 < s.size) :
    Calls Try.prog 14 #[.string s, .int .i64 size] w fun e w' => e = .returned (.tuple #[.string ⟨#[]⟩, .bool false]) ∧ w = w' := by
  by_cases h1 : size < 4
  · clear h
    go_enter Try.func14, Try.ntmps14
    go_wp2
    go_ret2
    exact ⟨rfl, rfl⟩
  · by_cases h2 : 4096 < size
    · clear h
      go_enter Try.func14, Try.ntmps14
      go_wp2
      go_ret2
      exact ⟨rfl, rfl⟩
    · have h3 : size - 4 < s.size := by omega
      clear h
      go_enter Try.func14, Try.ntmps14
      go_wp2
      go_ret2
      exact ⟨rfl, rfl⟩

/-- l and j bytes 0 behind -/
def zerosL (l : List UInt8) (j : Nat) : List UInt8 := l ++ List.replicate j 0
def zerosS (s : ByteArray) (j : Nat) : ByteArray := ⟨(zerosL s.data.toList j).toArray⟩
theorem zerosS_size (s : ByteArray) (j : Nat) : (zerosS s j).size = s.size + j := by
  show Array.size _ = _
  simp [zerosL]
theorem zerosS_succ (s : ByteArray) (j : Nat) : zerosS s j ++ ⟨#[0]⟩ = zerosS s (j + 1) := by
  apply ByteArray.ext
  apply Array.toList_inj.1
  rw [ByteArray.data_append]
  simp [zerosS, zerosL, List.replicate_succ']
theorem zerosS_zero (s : ByteArray) : zerosS s 0 = s := by
  apply ByteArray.ext
  simp [zerosS, zerosL]

set_option maxHeartbeats 1000000 in
theorem refSeal_yes (w : World) (s : ByteArray) (size n : Nat) (hz : size = n + 4) (h1 : 4 ≤ size) (h3 : size ≤ 4096) (h2 : s.size ≤ n) :
    Calls Try.prog 14 #[.string s, .int .i64 size] w fun e w' => e = .returned (.tuple #[.string ⟨(sealL s.data.toList n).toArray⟩, .bool true]) ∧ Below w.heap.size w w' := by
  have hsub : (size : Int) - 4 = (n : Int) := by omega
  have h2' : (s.size : Int) ≤ (n : Int) := by omega
  have HZ := Lib.hid hz
  clear hz
  go_enter Try.func14, Try.ntmps14
  go_wp2_with fail
  go_loop [6] (fun v => ∃ j : Nat, j ≤ n - s.size ∧ v = .string (zerosS s j)) (fun v => n - (match v with | .string t => t.size | _ => 0))
  case atStart => exact ⟨0, by omega, by rw [zerosS_zero]⟩
  case round =>
    obtain ⟨j, hj, rfl⟩ := hrel
    have hzs := zerosS_size s j
    obtain ⟨t, ht⟩ : ∃ t, zerosS s j = t := ⟨_, rfl⟩
    rw [ht] at hzs ⊢
    have HT := Lib.hid ht
    have HS := Lib.hid hzs
    by_cases hlt : j < n - s.size
    · have htn : t.size < n := by omega
      clear ht hzs
      go_wp2
      go_round
      case rel => exact ⟨j + 1, by omega, by rw [← zerosS_succ, HT.out]⟩
      case measure =>
        have := HS.out
        have h1 : (ByteArray.mk #[0]).size = 1 := rfl
        simp only [ByteArray.size_append, h1]
        omega
    · have htn : n ≤ t.size := by omega
      clear ht hzs
      go_wp2_with fail
      have hp : t.data.toList = padL s.data.toList n := by
        rw [← HT.out]
        have e : j = n - s.data.toList.length := by simp; omega
        rw [e]
        rfl
      have HP := Lib.hid hp
      clear hp
      refine (refSum_any _ t (by have := HS.out; unfold maxLen; omega)).mono ?_
      rintro e w1 ⟨rfl, rfl⟩
      go_wp2_with fail
      refine (four_any _ _ (cmore_lt _ _)).mono ?_
      rintro e w2 ⟨rfl, hb2⟩
      have hcat : ¬ 9223372036854775807 < t.size + (le32 (cmore 0 t.data.toList)).length := by
        have := HS.out
        rw [le32_length]
        omega
      go_wp2_with fail
      go_ret2
      refine ⟨?_, hb2⟩
      show Ending.returned (.tuple #[.string (t ++ ⟨(le32 (cmore 0 t.data.toList)).toArray⟩), .bool true]) = _
      congr 5
      apply ByteArray.ext
      apply Array.toList_inj.1
      rw [ByteArray.data_append, Array.toList_append, HP.out]
      rfl

theorem refOpen_short (w : World) (s : ByteArray) (h : s.size < 4) :
    Calls Try.prog 16 #[.string s] w fun e w' => e = .returned (.tuple #[.string ⟨#[]⟩, .bool false]) ∧ Below w.heap.size w w' := by
  go_enter Try.func16, Try.ntmps16
  go_wp2
  go_ret2
  exact ⟨rfl, Below.refl _ _⟩

theorem openB_long' (s : ByteArray) (n c : Nat) (hz : s.size = n + 4) (hc : cmore 0 (s.data.toList.take n) = c) : ((s.extract n s.size).toList == le32 c) = openB s.data.toList := by
  rw [← openB_long s n c hz hc, Bool.eq_iff_iff]
  simp only [beq_iff_eq]
  exact eq_comm

set_option maxHeartbeats 1000000 in
theorem refOpen_long (w : World) (s : ByteArray) (n : Nat) (hz : s.size = n + 4) (hm : s.size ≤ maxLen) (b : Bool) (hb : openB s.data.toList = b) :
    Calls Try.prog 16 #[.string s] w fun e w' => e = .returned (.tuple #[.string (if b then s.extract 0 n else ⟨#[]⟩), .bool b]) ∧ Below w.heap.size w w' := by
  unfold maxLen at hm
  have hnm : n ≤ 9223372036854775807 := by omega
  have hsub : (s.size : Int) - 4 = (n : Int) := by omega
  have h4 : ¬ (s.size : Int) < 4 := by omega
  have hns : (n : Int) ≤ (s.size : Int) := by omega
  have hns' : n ≤ s.size := by omega
  have HZ := Lib.hid hz
  have HB := Lib.hid hb
  clear hz hb
  go_enter Try.func16, Try.ntmps16
  go_wp2_with fail
  refine wp_region_nf (fun _ => True) (fun _ => false) [(0, true), (1, true), (2, true), (3, true), (4, true), (5, true), (6, false), (7, false), (8, true)] (by kernel_rfl) rfl (by kernel_rfl) (by kernel_rfl) (fun d _ _ _ _ h => by cases d <;> exact h) ?_
  repeat (refine nf_pure rfl trivial (fun w1 _ => by go_wp2; exact ⟨rfl, rfl, rfl⟩) rfl ?_ ?_; rfl)
  refine nf_imp rfl ?_
  go_wp2_with fail
  refine (refSum_any _ (s.extract 0 n) (by unfold maxLen; simp; omega)).mono ?_
  rintro e w1 ⟨rfl, rfl⟩
  go_wp2_with fail
  refine ⟨fun _ => trivial, ?_⟩
  refine nf_imp rfl ?_
  go_wp2_with fail
  have hcl := cmore_lt 0 (s.data.toList.take n)
  obtain ⟨c, hc⟩ : ∃ c, cmore 0 (s.data.toList.take n) = c := ⟨_, rfl⟩
  rw [hc] at hcl ⊢
  have HC := Lib.hid hc
  clear hc
  refine (four_any _ c hcl).mono ?_
  rintro e w2 ⟨rfl, hb2⟩
  go_wp2_with fail
  refine ⟨fun _ => trivial, ?_⟩
  have hbel : Below w.heap.size w w2 := (Below.drew (Below.refl _ _)).trans hb2
  have hneq := openB_long' s n c HZ.out HC.out
  rw [HB.out] at hneq
  have hneq' : (!((s.extract n s.size).toList == le32 c)) = !b := by rw [hneq]
  clear hneq
  cases b
  · have hn2 : (!((s.extract n s.size).toList == le32 c)) = true := hneq'
    clear hneq'
    repeat (refine nf_pure rfl trivial (fun w1 _ => by go_wp2; exact ⟨rfl, rfl, rfl⟩) rfl ?_ ?_; rfl)
    refine nf_nil ?_
    go_wp2_with fail
    go_ret2
    exact ⟨rfl, hbel⟩
  · have hn2 : (!((s.extract n s.size).toList == le32 c)) = false := hneq'
    clear hneq'
    repeat (refine nf_pure rfl trivial (fun w1 _ => by go_wp2; exact ⟨rfl, rfl, rfl⟩) rfl ?_ ?_; rfl)
    refine nf_nil ?_
    go_wp2_with fail
    go_ret2
    exact ⟨rfl, hbel⟩
end Go.Proofs.Ytcfelgjjacpofaa
