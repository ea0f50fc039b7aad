/- A text filled up to a sector. -/
import Derived.Test.YthpehdmffleobaaRc0
namespace Go.Proofs.Ythpehdmffleobaa
open Go.RowKit Go.OpenShut

def fullL (l : List UInt8) : List UInt8 := (l ++ List.replicate 64 0).take 64
theorem fullL_len (l : List UInt8) : (fullL l).length = 64 := by
  unfold fullL
  rw [List.length_take, List.length_append, List.length_replicate]
  omega
theorem szMk (l : List UInt8) : (ByteArray.mk l.toArray).size = l.length := by show Array.size _ = _; simp
theorem mkOf {s : ByteArray} {l : List UInt8} (h : s.data.toList = l) : s = ⟨l.toArray⟩ := by rw [← h]
theorem lenOf (s : ByteArray) : s.data.toList.length = s.size := by simp
theorem app_list (s t : ByteArray) : (s ++ t).data.toList = s.data.toList ++ t.data.toList := by simp
def blankS : ByteArray := ⟨(List.replicate 64 0).toArray⟩
theorem blankS_list : blankS.data.toList = List.replicate 64 0 := by simp [blankS]
theorem blankS_size : blankS.size = 64 := by rw [← lenOf, blankS_list, List.length_replicate]
theorem eqOf {s t : ByteArray} (h : s.data.toList = t.data.toList) : s = t := by rw [mkOf h]
set_option maxHeartbeats 1000000 in
theorem blank_any (w : World) :
    Calls Try.prog 37 #[] w fun e w' => e = .returned (.string blankS) ∧ w = w' := by
  go_enter Try.func37, Try.ntmps37
  go_wp2_with fail
  go_loop [1, 2] (fun s i => ∃ (k : Nat) (T : ByteArray), k ≤ 64 ∧ i = .int .i64 k ∧ s = .string T ∧ T.data.toList = List.replicate k 0) (fun _ i => 64 - (intOf i).toNat)
  case atStart => exact ⟨0, ⟨#[]⟩, by omega, rfl, rfl, rfl⟩
  case round =>
    obtain ⟨k, T, hk, rfl, rfl, hT⟩ := hrel
    have HT := Lib.hid hT
    have hs : T.size = k := by rw [← lenOf, hT, List.length_replicate]
    clear hT
    by_cases hlt : k < 64
    · go_wp2_with fail
      go_round
      case rel => exact ⟨k + 1, _, by omega, by go_num, rfl, by rw [app_list, HT.out, List.replicate_succ']⟩
      case measure => simp [intOf]; omega
    · obtain rfl : k = 64 := by omega
      go_wp2_with fail
      go_ret
      exact ⟨by rw [eqOf (HT.out.trans blankS_list.symm)]; rfl, rfl⟩
set_option maxHeartbeats 1000000 in
theorem full_any (w : World) (s : ByteArray) (hs : s.size ≤ 4294967295) :
    Calls Try.prog 23 #[.string s] w fun e w' => e = .returned (.string ⟨(fullL s.data.toList).toArray⟩) ∧ w = w' := by
  go_enter Try.func23, Try.ntmps23
  go_wp2_with fail
  refine (blank_any _).mono ?_
  rintro e w' ⟨rfl, rfl⟩
  have hz := blankS_size
  have HF := Lib.hid (show ((s ++ blankS).extract 0 64).data.toList = fullL s.data.toList by
    rw [← Lib.toList_data, Lib.extract_toList, app_list, blankS_list]
    simp [fullL])
  generalize blankS = Z at *
  go_wp2_with fail
  go_ret
  exact ⟨by rw [← mkOf HF.out]; rfl, rfl⟩
end Go.Proofs.Ythpehdmffleobaa
